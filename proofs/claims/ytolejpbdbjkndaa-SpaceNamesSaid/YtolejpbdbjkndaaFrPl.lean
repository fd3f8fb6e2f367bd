/-
  Frames in plain words: how many, each one's bytes and count; as rows of 65 cells in one block. Condition: none.
-/
import Derived.Test.YtolejpbdbjkndaaRowMem
namespace Go.Proofs.Ytolejpbdbjkndaa
open Go.RowKit
set_option linter.unusedVariables false

/-- Frames: how many, bytes, counts. -/
structure Fs where
  n : Nat
  b : Nat → List Int
  r : Nat → Nat
structure Fs.Ok (F : Fs) : Prop where
  pos : 1 ≤ F.n ∧ F.n ≤ 256
  len : ∀ k, (F.b k).length = 64
  low : ∀ k, ∀ x ∈ F.b k, 0 ≤ x ∧ x ≤ 255
  far : ∀ k, F.n ≤ k → F.r k = 0
  top : ∀ k, F.r k ≤ 1000000
def z64 : List Int := List.replicate 64 0
theorem z64_len : z64.length = 64 := rfl
theorem z64_low : ∀ x ∈ z64, 0 ≤ x ∧ x ≤ 255 := fun x hx => by
  rw [List.eq_of_mem_replicate hx]; decide
def Fs.new (n : Nat) : Fs := ⟨n, fun _ => z64, fun _ => 0⟩
theorem Fs.new_ok {n : Nat} (h : 1 ≤ n ∧ n ≤ 256) : (Fs.new n).Ok := ⟨h, fun _ => rfl, fun _ => z64_low, fun _ _ => rfl, fun _ => Nat.zero_le _⟩
def Fs.setR (F : Fs) (k v : Nat) : Fs := { F with r := fun j => if j = k then v else F.r j }
def Fs.setB (F : Fs) (k : Nat) (l : List Int) : Fs := { F with b := fun j => if j = k then l else F.b j }
def frow (F : Fs) (k : Nat) : List Value := (F.b k).map (fun x => Value.int .u8 x) ++ [.int .i64 (F.r k)]
def frows (F : Fs) : List (List Value) := (List.range F.n).map (frow F)
theorem frow_len {F : Fs} (h : F.Ok) (k : Nat) : (frow F k).length = 65 := by
  unfold frow
  rw [List.length_append, List.length_map, h.len]; rfl
theorem frows_len (F : Fs) : (frows F).length = F.n := by unfold frows; rw [List.length_map, List.length_range]
theorem frows_all {F : Fs} (h : F.Ok) : ∀ r ∈ frows F, r.length = 65 := fun r hr => by
  unfold frows at hr
  rw [List.mem_map] at hr
  obtain ⟨k, _, rfl⟩ := hr
  exact frow_len h k
theorem frows_get (F : Fs) {k : Nat} (hk : k < F.n) : (frows F)[k]? = some (frow F k) := by
  unfold frows
  rw [List.getElem?_map, List.getElem?_range hk]; rfl
theorem frow_byte {F : Fs} (h : F.Ok) (k : Nat) {j : Nat} (hj : j < 64) : (frow F k)[j]? = some (.int .u8 ((F.b k).getD j 0)) := by
  have hl := h.len k
  unfold frow
  rw [List.getElem?_append_left (by rw [List.length_map]; omega), List.getElem?_map, List.getD_eq_getElem?_getD, List.getElem?_eq_getElem (by omega)]; rfl
theorem frow_refs {F : Fs} (h : F.Ok) (k : Nat) : (frow F k)[64]? = some (.int .i64 (F.r k)) := by
  have hl := h.len k
  unfold frow
  rw [List.getElem?_append_right (by rw [List.length_map]; omega), List.length_map, hl]; rfl
theorem flat_set {s : Nat} (v : Value) : ∀ (rows : List (List Value)) (i j : Nat) (r : List Value), (∀ r ∈ rows, r.length = s) → j < s → rows[i]? = some r → rows.flatten.set (i * s + j) v = (rows.set i (r.set j v)).flatten
  | [], i, j, r, _, _, h => by simp at h
  | y :: ys, 0, j, r, hk, hj, h => by
    simp only [List.getElem?_cons_zero, Option.some.injEq] at h
    subst h
    have := hk y (List.mem_cons_self ..)
    rw [Nat.zero_mul, Nat.zero_add, List.flatten_cons, List.set_cons_zero, List.flatten_cons, List.set_append_left _ _ (by omega)]
  | y :: ys, i + 1, j, r, hk, hj, h => by
    simp only [List.getElem?_cons_succ] at h
    have hy := hk y (List.mem_cons_self ..)
    have e : (i + 1) * s + j = y.length + (i * s + j) := by rw [hy, Nat.succ_mul]; omega
    rw [List.flatten_cons, e, List.set_cons_succ, List.flatten_cons, List.set_append_right _ _ (by omega), Nat.add_sub_cancel_left,
      flat_set v ys i j r (fun r hr => hk r (List.mem_cons_of_mem _ hr)) hj h]
theorem range_map_set {α : Type} (f : Nat → α) (x : α) (n k : Nat) : ((List.range n).map f).set k x = (List.range n).map (fun j => if j = k then x else f j) := by
  apply List.ext_getElem?
  intro i
  rw [List.getElem?_set]
  by_cases hi : i < n
  · by_cases hk : k = i
    · subst hk
      rw [if_pos rfl, if_pos (by rw [List.length_map, List.length_range]; exact hi), List.getElem?_map, List.getElem?_range hi]
      simp
    · rw [if_neg hk, List.getElem?_map, List.getElem?_map, List.getElem?_range hi]
      simp
      exact fun h => absurd h.symm hk
  · by_cases hk : k = i
    · subst hk
      rw [if_pos rfl, if_neg (by rw [List.length_map, List.length_range]; exact hi)]
      simp [hi]
    · rw [if_neg hk]
      simp [hi]
theorem frow_setR {F : Fs} (h : F.Ok) (k v : Nat) : (frow F k).set 64 (.int .i64 v) = frow (F.setR k v) k := by
  have hl := h.len k
  unfold frow Fs.setR
  dsimp only
  rw [if_pos rfl, List.set_append_right _ _ (by rw [List.length_map]; omega), List.length_map, hl]; rfl
theorem frows_setR {F : Fs} (h : F.Ok) (k v : Nat) : (frows F).set k ((frow F k).set 64 (.int .i64 v)) = frows (F.setR k v) := by
  rw [frow_setR h]
  unfold frows
  rw [range_map_set]
  refine List.map_congr_left fun j _ => ?_
  by_cases hj : j = k
  · subst hj; rw [if_pos rfl]
  · rw [if_neg hj]
    unfold frow Fs.setR
    dsimp only
    rw [if_neg hj]
theorem frow_setB {F : Fs} (h : F.Ok) (k j : Nat) (hj : j < 64) (x : Int) : (frow F k).set j (.int .u8 x) = frow (F.setB k ((F.b k).set j x)) k := by
  have hl := h.len k
  unfold frow Fs.setB
  dsimp only
  rw [if_pos rfl, List.set_append_left _ _ (by rw [List.length_map]; omega), List.map_set]
theorem frows_setB {F : Fs} (h : F.Ok) (k j : Nat) (hj : j < 64) (x : Int) : (frows F).set k ((frow F k).set j (.int .u8 x)) = frows (F.setB k ((F.b k).set j x)) := by
  rw [frow_setB h k j hj]
  unfold frows
  rw [range_map_set]
  refine List.map_congr_left fun i _ => ?_
  by_cases hi : i = k
  · subst hi; rw [if_pos rfl]
  · rw [if_neg hi]
    unfold frow Fs.setB
    dsimp only
    rw [if_neg hi]
/-- Bytes over others, from a place on. -/
def putL (m : List Int) (j : Nat) : List Int → List Int
  | [] => m
  | x :: l => putL (m.set j x) (j + 1) l
theorem putL_len : ∀ (l m : List Int) (j : Nat), (putL m j l).length = m.length
  | [], m, j => rfl
  | x :: l, m, j => by rw [putL, putL_len l, List.length_set]
theorem putL_low : ∀ (l m : List Int) (j : Nat), (∀ x ∈ l, 0 ≤ x ∧ x ≤ 255) → (∀ x ∈ m, 0 ≤ x ∧ x ≤ 255) → ∀ x ∈ putL m j l, 0 ≤ x ∧ x ≤ 255
  | [], m, j, _, hm => hm
  | y :: l, m, j, hl, hm => putL_low l _ _ (fun x hx => hl x (List.mem_cons_of_mem _ hx)) fun x hx => by
    rcases List.mem_or_eq_of_mem_set hx with hx | rfl
    · exact hm x hx
    · exact hl _ (List.mem_cons_self ..)
theorem putL_get : ∀ (l m : List Int) (j i : Nat), j + l.length ≤ m.length → (putL m j l)[i]? = if j ≤ i ∧ i < j + l.length then l[i - j]? else m[i]?
  | [], m, j, i, _ => by rw [putL, if_neg (by simp only [List.length_nil]; omega)]
  | x :: l, m, j, i, h => by
    rw [List.length_cons] at h
    rw [putL, putL_get l _ (j + 1) i (by rw [List.length_set]; omega), List.length_cons]
    by_cases h1 : j + 1 ≤ i ∧ i < j + 1 + l.length
    · rw [if_pos h1, if_pos (by omega), show i - j = (i - (j + 1)) + 1 by omega, List.getElem?_cons_succ]
    · rw [if_neg h1]
      by_cases h2 : i = j
      · subst h2
        rw [if_pos (by omega), Nat.sub_self, List.getElem?_cons_zero, List.getElem?_set_self (by omega)]
      · rw [if_neg (by omega), List.getElem?_set_ne (fun e => h2 e.symm)]
theorem putL_whole {l m : List Int} (h : l.length = m.length) : putL m 0 l = l := by
  apply List.ext_getElem?
  intro i
  rw [putL_get l m 0 i (by omega)]
  by_cases hi : i < l.length
  · rw [if_pos (by omega), Nat.sub_zero]
  · rw [if_neg (by omega), List.getElem?_eq_none (by omega), List.getElem?_eq_none (by omega)]
theorem Fs.Ok.setR {F : Fs} (h : F.Ok) {k v : Nat} (hk : k < F.n) (hv : v ≤ 1000000) : (F.setR k v).Ok := by
  refine ⟨h.pos, h.len, h.low, fun j hj => ?_, fun j => ?_⟩
  · show (if j = k then v else F.r j) = 0
    have hj : F.n ≤ j := hj
    rw [if_neg (by omega)]
    exact h.far j hj
  · show (if j = k then v else F.r j) ≤ 1000000
    split
    · exact hv
    · exact h.top j
theorem Fs.Ok.setB {F : Fs} (h : F.Ok) (k : Nat) {l : List Int} (hl : l.length = 64) (hx : ∀ x ∈ l, 0 ≤ x ∧ x ≤ 255) : (F.setB k l).Ok := by
  refine ⟨h.pos, fun j => ?_, fun j => ?_, h.far, h.top⟩
  · show (if j = k then l else F.b j).length = 64
    split
    · exact hl
    · exact h.len j
  · show ∀ x ∈ (if j = k then l else F.b j), 0 ≤ x ∧ x ≤ 255
    split
    · exact hx
    · exact h.low j
theorem Fs.setB_setB (F : Fs) (k : Nat) (l l' : List Int) : (F.setB k l).setB k l' = F.setB k l' := by
  unfold Fs.setB
  congr 1
  funext j
  dsimp only
  split <;> rfl
theorem Fs.setB_at (F : Fs) (k : Nat) (l : List Int) : (F.setB k l).b k = l := if_pos rfl
end Go.Proofs.Ytolejpbdbjkndaa
