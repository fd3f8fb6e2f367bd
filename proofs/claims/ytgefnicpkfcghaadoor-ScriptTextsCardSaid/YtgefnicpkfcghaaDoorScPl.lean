/-
  Operations and their lines: a line says what it is the line of. Plain: no program in sight. No condition.
-/
import Derived.Test.YtgefnicpkfcghaaDoorSc3
import Derived.Test.YtgefnicpkfcghaaDoorSc4
namespace Go.Proofs.YtgefnicpkfcghaaDoor
set_option linter.unusedVariables false
set_option linter.unusedSimpArgs false

def okO (x : O) (b : Nat) : Bool := if b = 119 then nameB x.w.data.toList else fineP b (getO x b)
def zeroO (k : Int) : O := ⟨k, 0, 0, 0, 0, 0, ⟨#[]⟩⟩
def stepO (x y : O) (b : Nat) : O := if b = 119 then { y with w := x.w } else putO y b (getO x b)
def projO (x : O) (l : List Nat) : O := l.foldl (stepO x) (zeroO x.k)
/-- What may be done. -/
def MayO (x : O) : Prop := kindW x.k ≠ [] ∧ (∀ b ∈ partsL x.k, okO x b = true) ∧ x = projO x (partsL x.k)
instance (x : O) : Decidable (MayO x) := by unfold MayO; infer_instance
def wordO (x : O) (b : Nat) : List UInt8 := if b = 119 then x.w.data.toList else Lib.itoa (getO x b)
/-- The words of the line. -/
def lineWO (x : O) : List (List UInt8) := kindW x.k :: (partsL x.k).map (wordO x)
def lineO (x : O) : List UInt8 := glue (lineWO x)
def errO {α : Type} : Option α → Int
  | some _ => 0
  | none => 200
/-- The last one of the first n kinds that has this word (none has: 0). -/
def kAtO (w : List UInt8) : Nat → Nat
  | 0 => 0
  | n + 1 => if 0 < n ∧ kindW n = w then n else kAtO w n
theorem kAtO_lt (w : List UInt8) : ∀ n, kAtO w n < n + 1
  | 0 => Nat.lt_succ_self 0
  | n + 1 => by
    unfold kAtO
    split
    · omega
    · have := kAtO_lt w n; omega
/-- One more part of what a line would say: the words l, from the n-th on. -/
def stepC (l : List (List UInt8)) (st : Option (O × Nat)) (b : Nat) : Option (O × Nat) := match st with
  | none => none
  | some (y, n) => match l[n]? with
    | none => none
    | some u => if b = 119 then some ({ y with w := ⟨u.toArray⟩ }, n + 1) else if fineP b (atoiV u) = true then some (putO y b (atoiV u), n + 1) else none
def candS (l : List (List UInt8)) (k : Int) (ps : List Nat) : Option (O × Nat) := ps.foldl (stepC l) (some (zeroO k, 1))
def kindOf (s : List UInt8) : Nat := kAtO ((pieces s).getD 0 []) 13
def readO (s : List UInt8) : Option O := match candS (pieces s) (kindOf s) (partsL (kindOf s)) with
  | none => none
  | some (y, _) => if MayO y ∧ lineO y = s then some y else none
def RangeO (x : O) : Prop := (-9223372036854775808 ≤ x.co ∧ x.co ≤ 9223372036854775807) ∧ (-9223372036854775808 ≤ x.n ∧ x.n ≤ 9223372036854775807) ∧ (-9223372036854775808 ≤ x.p ∧ x.p ≤ 9223372036854775807) ∧ (-9223372036854775808 ≤ x.s ∧ x.s ≤ 9223372036854775807) ∧ (0 ≤ x.m ∧ x.m ≤ 4294967295)
theorem get_range {x : O} (h : RangeO x) (b : Nat) : -9223372036854775808 ≤ getO x b ∧ getO x b ≤ 9223372036854775807 := by
  obtain ⟨h1, h2, h3, h4, h5⟩ := h
  unfold getO
  repeat' split
  all_goals omega

theorem candS_snoc (l : List (List UInt8)) (k : Int) (ps : List Nat) (b : Nat) : candS l k (ps ++ [b]) = stepC l (candS l k ps) b := by
  unfold candS
  rw [List.foldl_append]
  rfl
theorem projO_snoc (x : O) (ps : List Nat) (b : Nat) : projO x (ps ++ [b]) = stepO x (projO x ps) b := by
  unfold projO
  rw [List.foldl_append]
  rfl
theorem parts_kind {k : Int} : ∀ b ∈ partsL k, b = 119 ∨ isPart b := by
  unfold partsL partsB
  repeat' split
  all_goals (unfold isPart; decide)

theorem kind_cases {k : Int} (h : kindW k ≠ []) : k = 1 ∨ k = 2 ∨ k = 3 ∨ k = 4 ∨ k = 5 ∨ k = 6 ∨ k = 7 ∨ k = 8 ∨ k = 9 ∨ k = 10 ∨ k = 11 ∨ k = 12 := by
  by_cases hk : 0 ≤ k ∧ k < 13
  · by_cases h0 : k = 0
    · subst h0
      exact absurd rfl h
    · omega
  · unfold kindW at h
    rw [if_neg hk] at h
    exact absurd rfl h
theorem kindW_free {k : Int} (d : UInt8) (hd : d = 32 ∨ d = 10) : ∀ c ∈ kindW k, c ≠ d := by
  by_cases h : kindW k = []
  · rw [h]; intro c hc; simp at hc
  · rcases kind_cases h with rfl | rfl | rfl | rfl | rfl | rfl | rfl | rfl | rfl | rfl | rfl | rfl <;> rcases hd with rfl | rfl <;> decide
theorem kAtO_kind {k : Int} (h : kindW k ≠ []) : (kAtO (kindW k) 13 : Int) = k := by
  rcases kind_cases h with rfl | rfl | rfl | rfl | rfl | rfl | rfl | rfl | rfl | rfl | rfl | rfl <;> decide
theorem dec_free (d : UInt8) (hd : d = 32 ∨ d = 10) (u : Nat) : ∀ c ∈ Lib.decDigits u, c ≠ d := fun c hc h => by
  have := dec_digit hc
  subst h
  rcases hd with rfl | rfl
  · have e : (32 : UInt8).toNat = 32 := rfl
    omega
  · have e : (10 : UInt8).toNat = 10 := rfl
    omega
theorem itoa_free (d : UInt8) (hd : d = 32 ∨ d = 10) (n : Int) : ∀ c ∈ Lib.itoa n, c ≠ d := fun c hc => by
  unfold Lib.itoa at hc
  split at hc
  · rcases List.mem_cons.1 hc with rfl | hc
    · rcases hd with rfl | rfl <;> decide
    · exact dec_free d hd _ c hc
  · exact dec_free d hd _ c hc
theorem name_free {l : List UInt8} (d : UInt8) (hd : d = 32 ∨ d = 10) (h : nameB l = true) : ∀ c ∈ l, c ≠ d := by
  unfold nameB at h
  simp only [Bool.and_eq_true, List.all_eq_true] at h
  intro c hc e
  have h2 := h.2 c hc
  subst e
  rcases hd with rfl | rfl
  · exact absurd h2 (by decide)
  · exact absurd h2 (by decide)
theorem lineWO_free {x : O} (d : UInt8) (hd : d = 32 ∨ d = 10) (hm : MayO x) : ∀ w ∈ lineWO x, ∀ c ∈ w, c ≠ d := by
  intro w hw
  rcases List.mem_cons.1 hw with rfl | hw
  · exact kindW_free d hd
  · obtain ⟨b, hb, rfl⟩ := List.mem_map.1 hw
    unfold wordO
    split
    · rename_i e
      have := hm.2.1 b hb
      unfold okO at this
      rw [if_pos e] at this
      exact name_free d hd this
    · exact itoa_free d hd _
theorem pieces_lineO {x : O} (hm : MayO x) : pieces (lineO x) = lineWO x := pieces_glue _ (by unfold lineWO; simp) (lineWO_free 32 (.inl rfl) hm)
theorem glue_free (d : UInt8) (hd : d ≠ 32) : ∀ (ws : List (List UInt8)), (∀ w ∈ ws, ∀ c ∈ w, c ≠ d) → ∀ c ∈ glue ws, c ≠ d
  | [], _, c, hc => by simp [glue] at hc
  | [w], h, c, hc => h w (List.mem_cons_self ..) c hc
  | w :: u :: ws, h, c, hc => by
    rw [glue_two] at hc
    rcases List.mem_append.1 hc with hc | hc
    · exact h w (List.mem_cons_self ..) c hc
    · rcases List.mem_cons.1 hc with rfl | hc
      · exact fun e => hd e.symm
      · exact glue_free d hd (u :: ws) (fun w' hw' => h w' (List.mem_cons_of_mem _ hw')) c hc
theorem lineO_noEnd {x : O} (hm : MayO x) : ∀ c ∈ lineO x, c ≠ 10 := glue_free 10 (by decide) _ (lineWO_free 10 (.inr rfl) hm)

theorem cand_take {x : O} (hr : RangeO x) (hok : ∀ b ∈ partsL x.k, okO x b = true) : ∀ j, j ≤ (partsL x.k).length → candS (lineWO x) x.k ((partsL x.k).take j) = some (projO x ((partsL x.k).take j), j + 1)
  | 0, _ => rfl
  | j + 1, hj => by
    have ih := cand_take hr hok j (by omega)
    have hb : (partsL x.k)[j]? = some (partsL x.k)[j] := List.getElem?_eq_getElem (by omega)
    have hmem : (partsL x.k)[j] ∈ partsL x.k := List.getElem_mem ..
    have hw : (lineWO x)[j + 1]? = some (wordO x (partsL x.k)[j]) := by
      unfold lineWO
      rw [List.getElem?_cons_succ, List.getElem?_map, hb]
      rfl
    rw [List.take_add_one, hb]
    generalize (partsL x.k)[j] = b at *
    show candS _ _ (_ ++ [b]) = some (projO x (_ ++ [b]), _)
    rw [candS_snoc, projO_snoc, ih]
    unfold stepC stepO wordO at *
    have ho := hok b hmem
    unfold okO at ho
    simp only [hw]
    by_cases he : b = 119
    · simp only [if_pos he]
    · rw [if_neg he] at ho
      simp only [if_neg he, atoiV_itoa (get_range hr b).1 (get_range hr b).2, ho, if_true]
theorem read_lineO {x : O} (hm : MayO x) (hr : RangeO x) : readO (lineO x) = some x := by
  have hk : (kindOf (lineO x) : Int) = x.k := by
    unfold kindOf
    rw [pieces_lineO hm]
    exact kAtO_kind hm.1
  have hc := cand_take hr hm.2.1 _ (Nat.le_refl _)
  rw [List.take_length, ← hm.2.2] at hc
  unfold readO
  rw [hk, pieces_lineO hm, hc]
  simp only [hm, and_self, if_true]

theorem putO_range {y : O} {b : Nat} {v : Int} (hb : isPart b) (h : RangeO y) (hv : -9223372036854775808 ≤ v ∧ v ≤ 9223372036854775807) : RangeO (putO y b v) := by
  obtain ⟨h1, h2, h3, h4, h5⟩ := h
  rcases hb with rfl | rfl | rfl | rfl | rfl
  · exact ⟨hv, h2, h3, h4, h5⟩
  · exact ⟨h1, hv, h3, h4, h5⟩
  · exact ⟨h1, h2, hv, h4, h5⟩
  · exact ⟨h1, h2, h3, hv, h5⟩
  · exact ⟨h1, h2, h3, h4, by show 0 ≤ v % 4294967296 ∧ v % 4294967296 ≤ 4294967295; omega⟩
theorem cand_range {l : List (List UInt8)} {k : Int} : ∀ (ps : List Nat), (∀ b ∈ ps, b = 119 ∨ isPart b) → ∀ (st : Option (O × Nat)), (∀ y n, st = some (y, n) → RangeO y) → ∀ y n, ps.foldl (stepC l) st = some (y, n) → RangeO y
  | [], _, st, h, y, n, e => h y n e
  | b :: ps, hp, st, h, y, n, e => by
    refine cand_range (k := k) ps (fun c hc => hp c (List.mem_cons_of_mem _ hc)) (stepC l st b) ?_ y n e
    intro y' n' e'
    unfold stepC at e'
    split at e'
    · cases e'
    · rename_i y0 n0
      have hy := h y0 n0 rfl
      split at e'
      · cases e'
      · split at e'
        · injection e' with e'
          injection e' with e1 e2
          rw [← e1]
          exact hy
        · rename_i hb
          split at e'
          · injection e' with e'
            injection e' with e1 e2
            rw [← e1]
            exact putO_range ((hp b (List.mem_cons_self ..)).resolve_left hb) hy (atoiV_range _)
          · cases e'
theorem zero_range (k : Int) : RangeO (zeroO k) := by
  simp only [RangeO, zeroO]
  decide
theorem read_someO {s : List UInt8} {x : O} (h : readO s = some x) : MayO x ∧ lineO x = s ∧ RangeO x := by
  unfold readO at h
  split at h
  · cases h
  · rename_i y n hc
    split at h
    · rename_i hh
      injection h with h
      subst h
      exact ⟨hh.1, hh.2, cand_range (k := kindOf s) _ parts_kind _ (fun y n e => by injection e with e; injection e with e1 e2; rw [← e1]; exact zero_range _) y n hc⟩
    · cases h
theorem lineO_len {x : O} (hm : MayO x) (hr : RangeO x) : (lineO x).length ≤ 1000 := by
  have hn : x.w.data.toList.length ≤ 16 ∨ 119 ∉ partsL x.k := by
    by_cases h : 119 ∈ partsL x.k
    · have := hm.2.1 _ h
      unfold okO nameB at this
      rw [if_pos rfl] at this
      simp only [Bool.and_eq_true, decide_eq_true_eq] at this
      exact .inl this.1.2
    · exact .inr h
  have hw : ∀ b ∈ partsL x.k, (wordO x b).length ≤ 21 := by
    intro b hb
    unfold wordO
    split
    · rename_i e
      rcases hn with hn | hn
      · omega
      · exact absurd (e ▸ hb) hn
    · exact itoa_len _ (get_range hr b).1 (get_range hr b).2
  have hk : (kindW x.k).length ≤ 10 := by
    rcases kind_cases hm.1 with e | e | e | e | e | e | e | e | e | e | e | e <;> rw [e] <;> decide
  have h2 : (partsL x.k).length ≤ 2 := by
    unfold partsL
    rw [List.length_map, Array.length_toList]
    exact partsB_size _
  unfold lineO lineWO
  generalize partsL x.k = ps at *
  match ps, h2 with
  | [], _ => simp only [List.map_nil, glue]; omega
  | [a], _ =>
    have := hw a (by simp)
    simp only [List.map_cons, List.map_nil, glue, List.length_append, List.length_cons]
    omega
  | [a, b], _ =>
    have := hw a (by simp)
    have := hw b (by simp)
    simp only [List.map_cons, List.map_nil, glue, List.length_append, List.length_cons]
    omega
end Go.Proofs.YtgefnicpkfcghaaDoor
