/-
  Calls and their lines: a line says what it is the line of. Plain: no program in sight. No condition.
-/
import Derived.Test.YthmjddnccgiinaaDoorCall5
import Derived.Test.YthmjddnccgiinaaDoorWords
namespace Go.Proofs.YthmjddnccgiinaaDoor
set_option linter.unusedVariables false
set_option linter.unusedSimpArgs false

/-- A call: its number, and three words. -/
structure Cl where
  n : Int
  a : Int
  b : Int
  c : Int
deriving DecidableEq
def Cl.cells (x : Cl) : List Value := [.int .i64 x.n, .int .u32 x.a, .int .u32 x.b, .int .u32 x.c]
def onC (x : Cl) : Cl := ⟨x.n, if 0 < agN x.n then x.a else 0, if 1 < agN x.n then x.b else 0, if 2 < agN x.n then x.c else 0⟩
theorem onlyA_on (x : Cl) : onlyA x.n x.a x.b x.c = (onC x).cells.toArray := rfl
def MayC (x : Cl) : Prop := 0 ≤ kM (kR x.n) ∧ onC x = x
instance (x : Cl) : Decidable (MayC x) := by unfold MayC; infer_instance
def RangeC (x : Cl) : Prop := (0 ≤ x.a ∧ x.a ≤ 4294967295) ∧ (0 ≤ x.b ∧ x.b ≤ 4294967295) ∧ (0 ≤ x.c ∧ x.c ≤ 4294967295)
def wordG (g : Ag) : List UInt8 := Lib.decDigits g.2.toNat
def nameC (n : Int) : List UInt8 := (kN (kR n)).data.toList
def wordsC (x : Cl) : List (List UInt8) := nameC x.n :: (agL x.n x.a x.b x.c).map wordG
def lineC (x : Cl) : List UInt8 := glue (wordsC x)
/-- The row with a word, out of the first so many; 0: there is none. -/
def byF (l : List UInt8) : Nat → Nat
  | 0 => 0
  | k + 1 => if (kindsL.getD k ([], -1)).1 = l then k else byF l k
def byN (l : List UInt8) : Nat := byF l 23
theorem kN_iff {k : Nat} {s : ByteArray} : kN k = s ↔ (kindsL.getD k ([], -1)).1 = s.data.toList := by
  unfold kN
  constructor
  · intro h
    rw [← h]
  · intro h
    rw [h]
theorem byF_name (s : ByteArray) : ∀ n, n ≤ 23 → (byF s.data.toList n < 23 ∧ kN (byF s.data.toList n) = s) ∨ (byF s.data.toList n = 0 ∧ ∀ j, j < n → kN j ≠ s)
  | 0, _ => .inr ⟨rfl, fun j h => absurd h (Nat.not_lt_zero j)⟩
  | n + 1, h => by
    unfold byF
    by_cases hc : (kindsL.getD n ([], -1)).1 = s.data.toList
    · rw [if_pos hc]
      exact .inl ⟨by omega, kN_iff.2 hc⟩
    · rw [if_neg hc]
      rcases byF_name s n (by omega) with h1 | ⟨h1, h2⟩
      · exact .inl h1
      · refine .inr ⟨h1, fun j hj => ?_⟩
        rcases Nat.lt_or_ge j n with hl | hl
        · exact h2 j hl
        · have : j = n := by omega
          subst this
          exact fun e => hc (kN_iff.1 e)
theorem isName_byN (s : ByteArray) : IsName s (byN s.data.toList) := byF_name s 23 (Nat.le_refl _)
theorem byN_of {s : ByteArray} {r : Nat} (h : IsName s r) : r = byN s.data.toList := isName_one h (isName_byN s)
theorem byF_lt (l : List UInt8) : ∀ n, byF l n < n + 1
  | 0 => Nat.lt_succ_self 0
  | n + 1 => by
    unfold byF
    split
    · omega
    · have := byF_lt l n; omega
theorem byN_lt (l : List UInt8) : byN l < 23 := by
  rcases isName_byN ⟨l.toArray⟩ with h | h
  · exact h.1
  · have := h.1; simp at this; omega
def argC (ws : List (List UInt8)) (n : Int) (j : Nat) : Int := if j < agN n then uintV (ws.getD (j + 1) []) else 0
def candC (s : List UInt8) : Cl := ⟨byN ((pieces s).getD 0 []), argC (pieces s) (byN ((pieces s).getD 0 [])) 0, argC (pieces s) (byN ((pieces s).getD 0 [])) 1, argC (pieces s) (byN ((pieces s).getD 0 [])) 2⟩
def FitC (s : List UInt8) : Prop := ((pieces s).length : Int) = 1 + kM (kR (byN ((pieces s).getD 0 [])))
instance (s : List UInt8) : Decidable (FitC s) := by unfold FitC; infer_instance
def readC (s : List UInt8) : Option Cl := if FitC s ∧ MayC (candC s) ∧ lineC (candC s) = s then some (candC s) else none

theorem kR_byN (l : List UInt8) : kR (byN l : Int) = byN l := by
  have h := byN_lt l
  by_cases h1 : 1 ≤ byN l
  · exact kR_in h1 h
  · rw [kR_out (by omega)]; omega
theorem may_num {n : Int} (h : 0 ≤ kM (kR n)) : 1 ≤ n ∧ n ≤ 22 ∧ ((kR n : Nat) : Int) = n := by
  by_cases hn : n < 1 ∨ 23 ≤ n
  · rw [kR_out hn] at h
    exact absurd h (by decide)
  · obtain ⟨k, rfl⟩ := Int.eq_ofNat_of_zero_le (show 0 ≤ n by omega)
    rw [kR_in (by omega) (by omega)]
    omega
theorem byN_name {n : Int} (h : 0 ≤ kM (kR n)) : (byN (nameC n) : Int) = n := by
  have h1 : IsName (kN (kR n)) (kR n) := .inl ⟨kR_lt n, rfl⟩
  have h2 := byN_of h1
  unfold nameC
  rw [← h2]
  exact (may_num h).2.2
theorem nameC_free (d : UInt8) (hd : d = 32 ∨ d = 10) (n : Int) : ∀ c ∈ nameC n, c ≠ d := by
  have hall : ∀ k : Fin 23, ∀ c ∈ (kN k.1).data.toList, c ≠ 32 ∧ c ≠ 10 := by decide +kernel
  intro c hc
  have := hall ⟨kR n, kR_lt n⟩ c hc
  rcases hd with rfl | rfl
  · exact this.1
  · exact this.2
theorem decC_free (d : UInt8) (hd : d = 32 ∨ d = 10) (u : Nat) : ∀ c ∈ Lib.decDigits u, c ≠ d := fun c hc h => by
  have := dec_digit hc
  subst h
  rcases hd with rfl | rfl
  · have e : (32 : UInt8).toNat = 32 := rfl
    omega
  · have e : (10 : UInt8).toNat = 10 := rfl
    omega
theorem wordsC_free (d : UInt8) (hd : d = 32 ∨ d = 10) (x : Cl) : ∀ w ∈ wordsC x, ∀ c ∈ w, c ≠ d := by
  intro w hw
  rcases List.mem_cons.1 hw with rfl | hw
  · exact nameC_free d hd x.n
  · obtain ⟨b, hb, rfl⟩ := List.mem_map.1 hw
    exact decC_free d hd _
theorem pieces_lineC (x : Cl) : pieces (lineC x) = wordsC x := pieces_glue _ (by unfold wordsC; simp) (wordsC_free 32 (.inl rfl) x)
theorem agL_len (N a b c : Int) : (agL N a b c).length = agN N := by
  unfold agL
  rw [List.length_take]
  have := agN_le N
  show min (agN N) 3 = agN N
  omega
theorem wordsC_get {x : Cl} (hr : RangeC x) {j : Nat} (hj : j < agN x.n) : uintV ((wordsC x).getD (j + 1) []) = [x.a, x.b, x.c].getD j 0 := by
  have h3 := agN_le x.n
  have hj3 : j < 3 := by omega
  have h1 : (wordsC x).getD (j + 1) [] = wordG (⟨j, hj3⟩, [x.a, x.b, x.c].getD j 0) := by
    unfold wordsC agL
    rw [List.getD_cons_succ, List.getD_eq_getElem?_getD, List.getElem?_map, List.getElem?_take_of_lt hj, agAll_at x.a x.b x.c hj3]
    rfl
  rw [h1]
  obtain ⟨⟨a0, a1⟩, ⟨b0, b1⟩, ⟨c0, c1⟩⟩ := hr
  have h2 : 0 ≤ [x.a, x.b, x.c].getD j 0 ∧ [x.a, x.b, x.c].getD j 0 ≤ 4294967295 := by
    rcases (show j = 0 ∨ j = 1 ∨ j = 2 by omega) with rfl | rfl | rfl
    · exact ⟨a0, a1⟩
    · exact ⟨b0, b1⟩
    · exact ⟨c0, c1⟩
  generalize [x.a, x.b, x.c].getD j 0 = v at *
  unfold wordG
  show uintV (Lib.decDigits v.toNat) = v
  rw [uintV_dec (by omega)]
  omega
theorem cand_line {x : Cl} (hm : MayC x) (hr : RangeC x) : candC (lineC x) = x := by
  unfold candC
  rw [pieces_lineC]
  have h0 : (wordsC x).getD 0 [] = nameC x.n := rfl
  rw [h0, byN_name hm.1]
  have hon := hm.2
  obtain ⟨n, a, b, c⟩ := x
  unfold onC at hon
  simp only [Cl.mk.injEq, true_and] at hon ⊢
  unfold argC
  refine ⟨?_, ?_, ?_⟩
  · by_cases h : 0 < agN n
    · rw [if_pos h]; exact wordsC_get hr h
    · rw [if_neg h]; have := hon.1; rw [if_neg h] at this; exact this
  · by_cases h : 1 < agN n
    · rw [if_pos h]; exact wordsC_get hr h
    · rw [if_neg h]; have := hon.2.1; rw [if_neg h] at this; exact this
  · by_cases h : 2 < agN n
    · rw [if_pos h]; exact wordsC_get hr h
    · rw [if_neg h]; have := hon.2.2; rw [if_neg h] at this; exact this
theorem read_lineC {x : Cl} (hm : MayC x) (hr : RangeC x) : readC (lineC x) = some x := by
  have hc := cand_line hm hr
  unfold readC
  rw [hc, if_pos]
  refine ⟨?_, hm, rfl⟩
  unfold FitC
  rw [pieces_lineC]
  have h0 : (wordsC x).getD 0 [] = nameC x.n := rfl
  rw [h0, byN_name hm.1]
  unfold wordsC
  rw [List.length_cons, List.length_map, agL_len]
  have := hm.1
  unfold agN
  omega
theorem argC_range (ws : List (List UInt8)) (n : Int) (j : Nat) : 0 ≤ argC ws n j ∧ argC ws n j ≤ 4294967295 := by
  unfold argC
  split
  · exact uintV_range _
  · omega
theorem cand_range (s : List UInt8) : RangeC (candC s) := ⟨argC_range .., argC_range .., argC_range ..⟩
theorem read_someC {s : List UInt8} {x : Cl} (h : readC s = some x) : MayC x ∧ RangeC x ∧ lineC x = s := by
  unfold readC at h
  split at h
  · rename_i hc
    injection h with h
    subst h
    exact ⟨hc.2.1, cand_range s, hc.2.2⟩
  · cases h
theorem glue_snoc : ∀ (ws : List (List UInt8)) (w u : List UInt8), glue ((w :: ws) ++ [u]) = glue (w :: ws) ++ 32 :: u
  | [], w, u => rfl
  | v :: ws, w, u => by
    have h := glue_snoc ws v u
    rw [List.cons_append, List.cons_append, glue_two, ← List.cons_append, h, glue_two]
    simp
end Go.Proofs.YthmjddnccgiinaaDoor
