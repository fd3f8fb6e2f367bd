/-
  New, may, Refs, Len, Share of frames. Condition: the frames lie in blocks of their own.
-/
import Derived.Test.YtlecfdchmcghlaaRowMem
import Derived.Laws.MakeOwn
namespace Go.Proofs.Ytlecfdchmcghlaa
section
open Go.RowKit
set_option linter.unusedVariables false

/-- Frames: how many, bytes, counts. -/
structure Fs where
  n : Nat
  b : Nat → List Int
  r : Nat → Nat
structure Fs.Ok (F : Fs) : Prop where
  pos : 1 ≤ F.n ∧ F.n ≤ 256
  len : ∀ k, (F.b k).length = 64
  low : ∀ k, ∀ x ∈ F.b k, 0 ≤ x ∧ x ≤ 255
  far : ∀ k, F.n ≤ k → F.r k = 0
  top : ∀ k, F.r k ≤ 1000000
def z64 : List Int := List.replicate 64 0
theorem z64_len : z64.length = 64 := rfl
theorem z64_low : ∀ x ∈ z64, 0 ≤ x ∧ x ≤ 255 := fun x hx => by
  rw [List.eq_of_mem_replicate hx]; decide
def Fs.new (n : Nat) : Fs := ⟨n, fun _ => z64, fun _ => 0⟩
theorem Fs.new_ok {n : Nat} (h : 1 ≤ n ∧ n ≤ 256) : (Fs.new n).Ok := ⟨h, fun _ => rfl, fun _ => z64_low, fun _ _ => rfl, fun _ => Nat.zero_le _⟩
def Fs.setR (F : Fs) (k v : Nat) : Fs := { F with r := fun j => if j = k then v else F.r j }
def Fs.setB (F : Fs) (k : Nat) (l : List Int) : Fs := { F with b := fun j => if j = k then l else F.b j }
def frow (F : Fs) (k : Nat) : List Value := (F.b k).map (fun x => Value.int .u8 x) ++ [.int .i64 (F.r k)]
def frows (F : Fs) : List (List Value) := (List.range F.n).map (frow F)
theorem frow_len {F : Fs} (h : F.Ok) (k : Nat) : (frow F k).length = 65 := by
  unfold frow
  rw [List.length_append, List.length_map, h.len]; rfl
theorem frows_len (F : Fs) : (frows F).length = F.n := by unfold frows; rw [List.length_map, List.length_range]
theorem frows_all {F : Fs} (h : F.Ok) : ∀ r ∈ frows F, r.length = 65 := fun r hr => by
  unfold frows at hr
  rw [List.mem_map] at hr
  obtain ⟨k, _, rfl⟩ := hr
  exact frow_len h k
theorem frows_get (F : Fs) {k : Nat} (hk : k < F.n) : (frows F)[k]? = some (frow F k) := by
  unfold frows
  rw [List.getElem?_map, List.getElem?_range hk]; rfl
theorem frow_byte {F : Fs} (h : F.Ok) (k : Nat) {j : Nat} (hj : j < 64) : (frow F k)[j]? = some (.int .u8 ((F.b k).getD j 0)) := by
  have hl := h.len k
  unfold frow
  rw [List.getElem?_append_left (by rw [List.length_map]; omega), List.getElem?_map, List.getD_eq_getElem?_getD, List.getElem?_eq_getElem (by omega)]; rfl
theorem frow_refs {F : Fs} (h : F.Ok) (k : Nat) : (frow F k)[64]? = some (.int .i64 (F.r k)) := by
  have hl := h.len k
  unfold frow
  rw [List.getElem?_append_right (by rw [List.length_map]; omega), List.length_map, hl]; rfl
theorem flat_set {s : Nat} (v : Value) : ∀ (rows : List (List Value)) (i j : Nat) (r : List Value), (∀ r ∈ rows, r.length = s) → j < s → rows[i]? = some r → rows.flatten.set (i * s + j) v = (rows.set i (r.set j v)).flatten
  | [], i, j, r, _, _, h => by simp at h
  | y :: ys, 0, j, r, hk, hj, h => by
    simp only [List.getElem?_cons_zero, Option.some.injEq] at h
    subst h
    have := hk y (List.mem_cons_self ..)
    rw [Nat.zero_mul, Nat.zero_add, List.flatten_cons, List.set_cons_zero, List.flatten_cons, List.set_append_left _ _ (by omega)]
  | y :: ys, i + 1, j, r, hk, hj, h => by
    simp only [List.getElem?_cons_succ] at h
    have hy := hk y (List.mem_cons_self ..)
    have e : (i + 1) * s + j = y.length + (i * s + j) := by rw [hy, Nat.succ_mul]; omega
    rw [List.flatten_cons, e, List.set_cons_succ, List.flatten_cons, List.set_append_right _ _ (by omega), Nat.add_sub_cancel_left,
      flat_set v ys i j r (fun r hr => hk r (List.mem_cons_of_mem _ hr)) hj h]
theorem range_map_set {α : Type} (f : Nat → α) (x : α) (n k : Nat) : ((List.range n).map f).set k x = (List.range n).map (fun j => if j = k then x else f j) := by
  apply List.ext_getElem?
  intro i
  rw [List.getElem?_set]
  by_cases hi : i < n
  · by_cases hk : k = i
    · subst hk
      rw [if_pos rfl, if_pos (by rw [List.length_map, List.length_range]; exact hi), List.getElem?_map, List.getElem?_range hi]
      simp
    · rw [if_neg hk, List.getElem?_map, List.getElem?_map, List.getElem?_range hi]
      simp
      exact fun h => absurd h.symm hk
  · by_cases hk : k = i
    · subst hk
      rw [if_pos rfl, if_neg (by rw [List.length_map, List.length_range]; exact hi)]
      simp [hi]
    · rw [if_neg hk]
      simp [hi]
theorem frow_setR {F : Fs} (h : F.Ok) (k v : Nat) : (frow F k).set 64 (.int .i64 v) = frow (F.setR k v) k := by
  have hl := h.len k
  unfold frow Fs.setR
  dsimp only
  rw [if_pos rfl, List.set_append_right _ _ (by rw [List.length_map]; omega), List.length_map, hl]; rfl
theorem frows_setR {F : Fs} (h : F.Ok) (k v : Nat) : (frows F).set k ((frow F k).set 64 (.int .i64 v)) = frows (F.setR k v) := by
  rw [frow_setR h]
  unfold frows
  rw [range_map_set]
  refine List.map_congr_left fun j _ => ?_
  by_cases hj : j = k
  · subst hj; rw [if_pos rfl]
  · rw [if_neg hj]
    unfold frow Fs.setR
    dsimp only
    rw [if_neg hj]
theorem frow_setB {F : Fs} (h : F.Ok) (k j : Nat) (hj : j < 64) (x : Int) : (frow F k).set j (.int .u8 x) = frow (F.setB k ((F.b k).set j x)) k := by
  have hl := h.len k
  unfold frow Fs.setB
  dsimp only
  rw [if_pos rfl, List.set_append_left _ _ (by rw [List.length_map]; omega), List.map_set]
theorem frows_setB {F : Fs} (h : F.Ok) (k j : Nat) (hj : j < 64) (x : Int) : (frows F).set k ((frow F k).set j (.int .u8 x)) = frows (F.setB k ((F.b k).set j x)) := by
  rw [frow_setB h k j hj]
  unfold frows
  rw [range_map_set]
  refine List.map_congr_left fun i _ => ?_
  by_cases hi : i = k
  · subst hi; rw [if_pos rfl]
  · rw [if_neg hi]
    unfold frow Fs.setB
    dsimp only
    rw [if_neg hi]
/-- Bytes over others, from a place on. -/
def putL (m : List Int) (j : Nat) : List Int → List Int
  | [] => m
  | x :: l => putL (m.set j x) (j + 1) l
theorem putL_len : ∀ (l m : List Int) (j : Nat), (putL m j l).length = m.length
  | [], m, j => rfl
  | x :: l, m, j => by rw [putL, putL_len l, List.length_set]
theorem putL_low : ∀ (l m : List Int) (j : Nat), (∀ x ∈ l, 0 ≤ x ∧ x ≤ 255) → (∀ x ∈ m, 0 ≤ x ∧ x ≤ 255) → ∀ x ∈ putL m j l, 0 ≤ x ∧ x ≤ 255
  | [], m, j, _, hm => hm
  | y :: l, m, j, hl, hm => putL_low l _ _ (fun x hx => hl x (List.mem_cons_of_mem _ hx)) fun x hx => by
    rcases List.mem_or_eq_of_mem_set hx with hx | rfl
    · exact hm x hx
    · exact hl _ (List.mem_cons_self ..)
theorem putL_get : ∀ (l m : List Int) (j i : Nat), j + l.length ≤ m.length → (putL m j l)[i]? = if j ≤ i ∧ i < j + l.length then l[i - j]? else m[i]?
  | [], m, j, i, _ => by rw [putL, if_neg (by simp only [List.length_nil]; omega)]
  | x :: l, m, j, i, h => by
    rw [List.length_cons] at h
    rw [putL, putL_get l _ (j + 1) i (by rw [List.length_set]; omega), List.length_cons]
    by_cases h1 : j + 1 ≤ i ∧ i < j + 1 + l.length
    · rw [if_pos h1, if_pos (by omega), show i - j = (i - (j + 1)) + 1 by omega, List.getElem?_cons_succ]
    · rw [if_neg h1]
      by_cases h2 : i = j
      · subst h2
        rw [if_pos (by omega), Nat.sub_self, List.getElem?_cons_zero, List.getElem?_set_self (by omega)]
      · rw [if_neg (by omega), List.getElem?_set_ne (fun e => h2 e.symm)]
theorem putL_whole {l m : List Int} (h : l.length = m.length) : putL m 0 l = l := by
  apply List.ext_getElem?
  intro i
  rw [putL_get l m 0 i (by omega)]
  by_cases hi : i < l.length
  · rw [if_pos (by omega), Nat.sub_zero]
  · rw [if_neg (by omega), List.getElem?_eq_none (by omega), List.getElem?_eq_none (by omega)]
theorem Fs.Ok.setR {F : Fs} (h : F.Ok) {k v : Nat} (hk : k < F.n) (hv : v ≤ 1000000) : (F.setR k v).Ok := by
  refine ⟨h.pos, h.len, h.low, fun j hj => ?_, fun j => ?_⟩
  · show (if j = k then v else F.r j) = 0
    have hj : F.n ≤ j := hj
    rw [if_neg (by omega)]
    exact h.far j hj
  · show (if j = k then v else F.r j) ≤ 1000000
    split
    · exact hv
    · exact h.top j
theorem Fs.Ok.setB {F : Fs} (h : F.Ok) (k : Nat) {l : List Int} (hl : l.length = 64) (hx : ∀ x ∈ l, 0 ≤ x ∧ x ≤ 255) : (F.setB k l).Ok := by
  refine ⟨h.pos, fun j => ?_, fun j => ?_, h.far, h.top⟩
  · show (if j = k then l else F.b j).length = 64
    split
    · exact hl
    · exact h.len j
  · show ∀ x ∈ (if j = k then l else F.b j), 0 ≤ x ∧ x ≤ 255
    split
    · exact hx
    · exact h.low j
theorem Fs.setB_setB (F : Fs) (k : Nat) (l l' : List Int) : (F.setB k l).setB k l' = F.setB k l' := by
  unfold Fs.setB
  congr 1
  funext j
  dsimp only
  split <;> rfl
theorem Fs.setB_at (F : Fs) (k : Nat) (l : List Int) : (F.setB k l).b k = l := if_pos rfl
end
end Go.Proofs.Ytlecfdchmcghlaa
namespace Go.Proofs.Ytlecfdchmcghlaa
section
open Go.RowKit
set_option linter.unusedVariables false

/-- Frames at block fb, their rows in block lb. -/
structure FrAt (w : World) (fb lb cap : Nat) (F : Fs) : Prop where
  p : Blk w fb 56 #[.slice (some ⟨lb, 0, none⟩) F.n cap]
  l : ∃ more, Blk w lb 99 ((frows F).flatten ++ more).toArray
  ne : fb ≠ lb
  cap : F.n ≤ cap
  ok : F.Ok
section
variable {w w' : World} {fb lb cap : Nat} {F : Fs}
theorem FrAt.lt (h : FrAt w fb lb cap F) : fb < w.heap.size ∧ lb < w.heap.size := by
  obtain ⟨m, hm⟩ := h.l
  exact ⟨h.p.lt, hm.lt⟩
theorem FrAt.below (h : FrAt w fb lb cap F) (hb : Below w.heap.size w w') : FrAt w' fb lb cap F := by
  obtain ⟨m, hm⟩ := h.l
  exact ⟨h.p.below hb h.p.lt, ⟨m, hm.below hb hm.lt⟩, h.ne, h.cap, h.ok⟩
theorem FrAt.but {S : Nat → Prop} (h : FrAt w fb lb cap F) (hb : But S w w') (h1 : ¬ S fb) (h2 : ¬ S lb) : FrAt w' fb lb cap F := by
  obtain ⟨m, hm⟩ := h.l
  exact ⟨h.p.but hb h1, ⟨m, hm.but hb h2⟩, h.ne, h.cap, h.ok⟩
theorem FrAt.drew (h : FrAt w fb lb cap F) : FrAt w.drew fb lb cap F := h.below (Below.refl _ _).drew
theorem frow_cell (h : FrAt w fb lb cap F) {k j : Nat} (hk : k < F.n) (hj : j < 65) : w.cell? ⟨lb, k * 65 + j, none⟩ = (frow F k)[j]? := by
  obtain ⟨m, hm⟩ := h.l
  have hl := frow_len h.ok k
  have h1 := flat_get (frows F) k j (frow F k) (frows_all h.ok) hj (frows_get F hk)
  rw [hm.cell, List.getElem?_toArray]
  rw [List.getElem?_eq_getElem (show j < (frow F k).length by omega)] at h1 ⊢
  rw [List.getElem?_append_left (List.getElem?_eq_some_iff.1 h1).1]
  exact h1
theorem FrAt.byte (h : FrAt w fb lb cap F) {k j : Nat} (hk : k < F.n) (hj : j < 64) : w.cell? ⟨lb, k * 65 + j, none⟩ = some (.int .u8 ((F.b k).getD j 0)) :=
  (frow_cell h hk (by omega)).trans (frow_byte h.ok k hj)
theorem FrAt.refs (h : FrAt w fb lb cap F) {k : Nat} (hk : k < F.n) : w.cell? ⟨lb, k * 65 + 64, none⟩ = some (.int .i64 (F.r k)) :=
  (frow_cell h hk (by omega)).trans (frow_refs h.ok k)
theorem FrAt.frozen (h : FrAt w fb lb cap F) (i : Nat) : w.frozen? ⟨lb, i, none⟩ = false := by
  obtain ⟨m, hm⟩ := h.l
  exact hm.frozen i
theorem FrAt.slice (h : FrAt w fb lb cap F) : w.cell? ⟨fb, 0, none⟩ = some (.slice (some ⟨lb, 0, none⟩) F.n cap) := h.p.cell 0
theorem frow_in (h : FrAt w fb lb cap F) {k j : Nat} (hk : k < F.n) (hj : j < 65) : k * 65 + j < (frows F).flatten.length := by
  have hl := frow_len h.ok k
  have h1 := flat_get (frows F) k j (frow F k) (frows_all h.ok) hj (frows_get F hk)
  rw [List.getElem?_eq_getElem (show j < (frow F k).length by omega)] at h1
  exact (List.getElem?_eq_some_iff.1 h1).1
theorem FrAt.put (h : FrAt w fb lb cap F) {k j : Nat} (hk : k < F.n) (hj : j < 65) (v : Value) {F' : Fs} (hF : (frows F).set k ((frow F k).set j v) = frows F') (hn : F'.n = F.n) (hok : F'.Ok) :
    FrAt (w.setCell ⟨lb, k * 65 + j, none⟩ v) fb lb cap F' := by
  obtain ⟨m, hm⟩ := h.l
  refine ⟨by rw [hn]; exact h.p.far (by show fb ≠ lb; exact h.ne) v, ⟨m, ?_⟩, h.ne, by rw [hn]; exact h.cap, hok⟩
  have h1 := hm.set_ (k * 65 + j) v
  rw [List.setIfInBounds_toArray, List.set_append_left _ _ (frow_in h hk hj), flat_set v (frows F) k j (frow F k) (frows_all h.ok) hj (frows_get F hk), hF] at h1
  exact h1
end
end
end Go.Proofs.Ytlecfdchmcghlaa
namespace Go.Proofs.Ytlecfdchmcghlaa
section
open Go.RowKit Go.Lib
set_option linter.unusedVariables false
set_option linter.unusedSimpArgs false

section
variable {w : World} {fb lb cap : Nat} {F : Fs}
/-- The error of a call of frame k: 0, or that there is none, or it is free. -/
def mayE (F : Fs) (k : Int) : Int := if 0 ≤ k ∧ k < F.n ∧ F.r k.toNat ≠ 0 then 0 else 41

set_option maxRecDepth 100000 in
set_option maxHeartbeats 2000000 in
theorem frMay_any (h : FrAt w fb lb cap F) (k : Int) :
    Calls Try.prog 47 #[.pointer (some ⟨fb, 0, none⟩), .int .i64 k] w fun e w' => e = .returned (.int .i64 (mayE F k)) ∧ w = w' := by
  have c0 := h.slice
  have hlt := h.p.lt
  have hlt2 := h.lt.2
  have hpos := h.ok.pos
  have hn0 : ((F.n : Int) == 0) = false := by simpa using (show (F.n : Int) ≠ 0 by omega)
  by_cases h0 : k < 0
  · have he : mayE F k = 41 := if_neg (by omega)
    rw [he]
    clear h he
    go_enter Try.func47, Try.ntmps47
    go_wp2
    go_ret
    exact ⟨rfl, rfl⟩
  by_cases h1 : (F.n : Int) ≤ k
  · have he : mayE F k = 41 := if_neg (by omega)
    rw [he]
    clear h he
    go_enter Try.func47, Try.ntmps47
    go_wp2
    go_ret
    exact ⟨rfl, rfl⟩
  obtain ⟨k, rfl⟩ := Int.eq_ofNat_of_zero_le (by omega : 0 ≤ k)
  have hk : k < F.n := by omega
  have cr := h.refs hk
  by_cases hr : F.r k = 0
  · have he : mayE F k = 41 := if_neg (fun x => x.2.2 (by rw [Int.toNat_natCast]; exact hr))
    rw [he]
    rw [hr] at cr
    clear h he
    go_enter Try.func47, Try.ntmps47
    go_wp2
    go_ret
    exact ⟨rfl, rfl⟩
  · have he : mayE F k = 0 := if_pos ⟨by omega, by omega, by rw [Int.toNat_natCast]; exact hr⟩
    have hrn : ((F.r k : Int) == 0) = false := by simpa using (show (F.r k : Int) ≠ 0 by omega)
    rw [he]
    clear h he
    go_enter Try.func47, Try.ntmps47
    go_wp2
    go_ret
    exact ⟨rfl, rfl⟩
/-- The count of frame k; 0, if there is none. -/
def refsI (F : Fs) (k : Int) : Int := if 0 ≤ k ∧ k < F.n then F.r k.toNat else 0

set_option maxRecDepth 100000 in
set_option maxHeartbeats 2000000 in
theorem frRefs_any (h : FrAt w fb lb cap F) (k : Int) :
    Calls Try.prog 56 #[.pointer (some ⟨fb, 0, none⟩), .int .i64 k] w fun e w' => e = .returned (.int .i64 (refsI F k)) ∧ w = w' := by
  have HM := Lib.hid (frMay_any h k)
  have c0 := h.slice
  have hlt := h.p.lt
  have hlt2 := h.lt.2
  by_cases hm : 0 ≤ k ∧ k < F.n ∧ F.r k.toNat ≠ 0
  · have he : mayE F k = 0 := if_pos hm
    rw [he] at HM
    obtain ⟨k, rfl⟩ := Int.eq_ofNat_of_zero_le hm.1
    have hk : k < F.n := by omega
    have hki : (k : Int) < (F.n : Int) := by omega
    have cr := h.refs hk
    have hr : refsI F k = F.r k := by unfold refsI; rw [if_pos ⟨by omega, by omega⟩, Int.toNat_natCast]
    rw [hr]
    clear h he hm hr
    go_enter Try.func56, Try.ntmps56
    go_wp2_with (fail)
    refine HM.out.mono ?_
    rintro e _ ⟨rfl, rfl⟩
    go_wp2
    go_ret
    exact ⟨rfl, rfl⟩
  · have he : mayE F k = 41 := if_neg hm
    have hr : refsI F k = 0 := by
      unfold refsI
      by_cases hk : 0 ≤ k ∧ k < F.n
      · rw [if_pos hk]
        have : ¬ F.r k.toNat ≠ 0 := fun x => hm ⟨hk.1, hk.2, x⟩
        omega
      · rw [if_neg hk]
    rw [he] at HM
    rw [hr]
    clear h he hm hr
    go_enter Try.func56, Try.ntmps56
    go_wp2_with (fail)
    refine HM.out.mono ?_
    rintro e _ ⟨rfl, rfl⟩
    go_wp2
    go_ret
    exact ⟨rfl, rfl⟩

set_option maxRecDepth 100000 in
theorem frLen_any (h : FrAt w fb lb cap F) :
    Calls Try.prog 41 #[.pointer (some ⟨fb, 0, none⟩)] w fun e w' => e = .returned (.int .i64 F.n) ∧ w = w' := by
  have c0 := h.slice
  have hlt := h.p.lt
  clear h
  go_enter Try.func41, Try.ntmps41
  go_wp2
  go_ret
  exact ⟨rfl, rfl⟩
end
/-- What of the frames is turned: the rows' block. -/
def FrOut (w w' : World) (fb lb cap : Nat) (F' : Fs) : Prop := FrAt w' fb lb cap F' ∧ But (fun k => k = lb) w w'
section
variable {w : World} {fb lb cap : Nat} {F : Fs}
/-- One more has frame k, if it is not free. -/
def shareF (F : Fs) (k : Int) : Fs := if 0 ≤ k ∧ k < F.n ∧ F.r k.toNat ≠ 0 then F.setR k.toNat (F.r k.toNat + 1) else F

set_option maxRecDepth 100000 in
set_option maxHeartbeats 2000000 in
theorem frShare_any (h : FrAt w fb lb cap F) (k : Int) (htop : 0 ≤ k → F.r k.toNat < 1000000) :
    Calls Try.prog 29 #[.pointer (some ⟨fb, 0, none⟩), .int .i64 k] w fun e w' => e = .returned (.int .i64 (mayE F k)) ∧ FrOut w w' fb lb cap (shareF F k) := by
  have HM := Lib.hid (frMay_any h k)
  have HH := Lib.hid h
  have c0 := h.slice
  have hlt := h.p.lt
  have hlt2 := h.lt.2
  by_cases hm : 0 ≤ k ∧ k < F.n ∧ F.r k.toNat ≠ 0
  · have he : mayE F k = 0 := if_pos hm
    have hs : shareF F k = F.setR k.toNat (F.r k.toNat + 1) := if_pos hm
    obtain ⟨k, rfl⟩ := Int.eq_ofNat_of_zero_le hm.1
    rw [Int.toNat_natCast] at hs
    have ht : F.r k < 1000000 := htop (by omega)
    rw [he] at HM ⊢
    rw [hs]
    have hk : k < F.n := by omega
    have hki : (k : Int) < (F.n : Int) := by omega
    have cr := h.refs hk
    have cf := h.frozen (k * 65 + 64)
    have HF := Lib.hid (show FrAt (w.setCell ⟨lb, k * 65 + 64, none⟩ (.int .i64 ((F.r k : Int) + 1))) fb lb cap (F.setR k (F.r k + 1)) from
      h.put hk (by omega) _ (by rw [show ((F.r k : Int) + 1) = ((F.r k + 1 : Nat) : Int) from by omega]; exact frows_setR h.ok k _) rfl (h.ok.setR hk (by omega)))
    clear h he hm hs htop
    go_enter Try.func29, Try.ntmps29
    go_wp2_with (fail)
    refine HM.out.mono ?_
    rintro e _ ⟨rfl, rfl⟩
    go_wp2
    go_ret
    exact ⟨rfl, HF.out, But.setCell (S := fun k => k = lb) (But.refl _ w) (p := ⟨lb, k * 65 + 64, none⟩) (.inl rfl) _⟩
  · have he : mayE F k = 41 := if_neg hm
    have hs : shareF F k = F := if_neg hm
    rw [he] at HM ⊢
    rw [hs]
    clear h he hm hs htop
    go_enter Try.func29, Try.ntmps29
    go_wp2_with (fail)
    refine HM.out.mono ?_
    rintro e _ ⟨rfl, rfl⟩
    go_wp2
    go_ret
    exact ⟨rfl, HH.out, But.refl _ _⟩
end
end
end Go.Proofs.Ytlecfdchmcghlaa
