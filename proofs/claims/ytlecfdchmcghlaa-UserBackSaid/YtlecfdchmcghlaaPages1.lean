/-
  Walks over package pages: Check, at, Get. The table lies in memory as 'Tab' says.
-/
import Derived.Test.YtlecfdchmcghlaaBase
namespace Go.Proofs.Ytlecfdchmcghlaa
open Go.RowKit
set_option linter.unusedVariables false

/-- An entry. -/
structure E where
  f : Int
  w : Bool
  s : Bool
  c : Bool
  d : Bool
deriving DecidableEq, Inhabited

def E.zero : E := ⟨0, false, false, false, false⟩
def E.arr (x : E) : Array Value := #[.int .i64 x.f, .bool x.w, .bool x.s, .bool x.c, .bool x.d]
def E.val (x : E) : Value := .agg x.arr
/-- May it be an entry? -/
def E.ok (x : E) : Bool := decide (0 ≤ x.f) && decide (x.f < 256) && !(x.s && x.c)

abbrev M := Nat → Option E

def slotList : Option E → List Value
  | none => [.int .i64 0, .bool false, .bool false, .bool false, .bool false, .bool false]
  | some x => [.int .i64 x.f, .bool x.w, .bool x.s, .bool x.c, .bool x.d, .bool true]
theorem slotList_len (o : Option E) : (slotList o).length = 6 := by cases o <;> rfl
def partList (m : M) (i : Nat) : List Value := slotList (m (8*i)) ++ slotList (m (8*i+1)) ++ slotList (m (8*i+2)) ++ slotList (m (8*i+3)) ++ slotList (m (8*i+4)) ++ slotList (m (8*i+5)) ++ slotList (m (8*i+6)) ++ slotList (m (8*i+7))
def partArr (m : M) (i : Nat) : Array Value := (partList m i).toArray
def ptrV (q : Option Nat) : Value := .pointer (q.map fun b => ⟨b, 0, none⟩)
def tabArr (q : Nat → Option Nat) : Array Value := #[ptrV (q 0), ptrV (q 1), ptrV (q 2), ptrV (q 3), ptrV (q 4), ptrV (q 5), ptrV (q 6), ptrV (q 7)]

theorem eight {i : Nat} (h : i < 8) : i = 0 ∨ i = 1 ∨ i = 2 ∨ i = 3 ∨ i = 4 ∨ i = 5 ∨ i = 6 ∨ i = 7 := by omega
theorem six {i : Nat} (h : i < 6) : i = 0 ∨ i = 1 ∨ i = 2 ∨ i = 3 ∨ i = 4 ∨ i = 5 := by omega

theorem partArr_at (m : M) (i : Nat) {j k : Nat} (hj : j < 8) (hk : k < 6) : (partArr m i)[j * 6 + k]? = (slotList (m (8 * i + j)))[k]? := by
  unfold partArr partList
  rw [List.getElem?_toArray]
  rcases eight hj with rfl | rfl | rfl | rfl | rfl | rfl | rfl | rfl <;> simp [List.getElem?_append, slotList_len] <;> rcases six hk with rfl | rfl | rfl | rfl | rfl | rfl <;> simp
theorem tabArr_at (q : Nat → Option Nat) {i : Nat} (hi : i < 8) : (tabArr q)[i]? = some (ptrV (q i)) := by
  rcases eight hi with rfl | rfl | rfl | rfl | rfl | rfl | rfl | rfl <;> rfl

/-- A TABLE IN MEMORY: block bt holds the parts' addresses q; a part that is there holds its eight slots, one of which at least is taken. -/
structure Tab (w : World) (bt : Nat) (q : Nat → Option Nat) (m : M) : Prop where
  top : Blk w bt 61 (tabArr q)
  part : ∀ i b, i < 8 → q i = some b → Blk w b 105 (partArr m i)
  some_ : ∀ i b, i < 8 → q i = some b → ∃ j, j < 8 ∧ (m (8 * i + j)).isSome = true
  none_ : ∀ i j, i < 8 → q i = none → j < 8 → m (8 * i + j) = none
  inj : ∀ i j b, i < 8 → j < 8 → q i = some b → q j = some b → i = j

theorem Tab.below {w w' : World} {bt : Nat} {q : Nat → Option Nat} {m : M} {B : Nat} (h : Tab w bt q m) (hb : Below B w w') (hB : w.heap.size ≤ B) : Tab w' bt q m :=
  ⟨h.top.below hb (by have := h.top.lt; omega), fun i b hi hq => (h.part i b hi hq).below hb (by have := (h.part i b hi hq).lt; omega), h.some_, h.none_, h.inj⟩
theorem Tab.alloc {w : World} {bt : Nat} {q : Nat → Option Nat} {m : M} (h : Tab w bt q m) (o : Obj) : Tab (w.alloc o) bt q m :=
  h.below (B := w.heap.size) ((Below.refl _ _).alloc (Nat.le_refl _) o) (Nat.le_refl _)


def code (x : E) : Int := if x.ok then 0 else 50
theorem check_any (x : E) (w : World) : Calls Try.prog 45 #[x.val] w fun e w' => e = .returned (.int .i64 (code x)) ∧ Below w.heap.size w w' := by
  obtain ⟨f, a, b, c, d⟩ := x
  by_cases h1 : f < 0
  · have hc : code ⟨f, a, b, c, d⟩ = 50 := by unfold code E.ok; rw [if_neg]; simp; omega
    simp only [E.val, E.arr]
    go_enter Try.func45, Try.ntmps45
    go_wp2
    go_ret
    exact ⟨by first | rfl | (rw [hc]; rfl), (Below.refl _ _).alloc (Nat.le_refl _) _⟩
  · by_cases h2 : 256 ≤ f
    · have hc : code ⟨f, a, b, c, d⟩ = 50 := by unfold code E.ok; rw [if_neg]; simp; omega
      simp only [E.val, E.arr]
      go_enter Try.func45, Try.ntmps45
      go_wp2
      go_ret
      exact ⟨by first | rfl | (rw [hc]; rfl), (Below.refl _ _).alloc (Nat.le_refl _) _⟩
    · have h1' : decide (0 ≤ f) = true := by simp; omega
      have h2' : decide (f < 256) = true := by simp; omega
      simp only [E.val, E.arr]
      cases b <;> cases c
      all_goals
        go_enter Try.func45, Try.ntmps45
        go_wp2
        go_ret
        refine ⟨?_, (Below.refl _ _).alloc (Nat.le_refl _) _⟩
        simp [code, E.ok, h1', h2']

/-- What a page's entry is, whatever number is asked for. -/
def look (m : M) (p : Int) : Option E := if 0 ≤ p ∧ p < 64 then m p.toNat else none

theorem at_nil (p : Int) (w : World) : Calls Try.prog 58 #[.pointer none, .int .i64 p] w fun e w' => e = .returned (.pointer none) ∧ w = w' := by
  go_enter Try.func58, Try.ntmps58
  go_wp2
  go_ret
  exact ⟨rfl, rfl⟩
theorem at_out (b : Nat) (p : Int) (hp : p < 0 ∨ 64 ≤ p) (w : World) : Calls Try.prog 58 #[.pointer (some ⟨b, 0, none⟩), .int .i64 p] w fun e w' => e = .returned (.pointer none) ∧ w = w' := by
  by_cases hp' : p < 0
  · clear hp
    go_enter Try.func58, Try.ntmps58
    go_wp2
    go_ret
    exact ⟨rfl, rfl⟩
  · have h2 : 64 ≤ p := by omega
    clear hp
    go_enter Try.func58, Try.ntmps58
    go_wp2
    go_ret
    exact ⟨rfl, rfl⟩

theorem div8 (p : Nat) (hp : p < 64) : p / 8 < 8 := by omega
theorem mod8 (p : Nat) : p % 8 < 8 := by omega
theorem dm8 (p : Nat) : 8 * (p / 8) + p % 8 = p := by omega
theorem add_mul6 (b j : Nat) : Addr.add ⟨b, 0, none⟩ (j * 6) = ⟨b, j * 6, none⟩ := by
  unfold Addr.add; split <;> simp_all

section
variable {w : World} {bt : Nat} {q : Nat → Option Nat} {m : M}
theorem Tab.ptr (h : Tab w bt q m) {p : Nat} (hp : p < 64) : w.cell? ⟨bt, p / 8, none⟩ = some (ptrV (q (p / 8))) := by
  rw [h.top.cell, tabArr_at q (div8 p hp)]
theorem Tab.slot (h : Tab w bt q m) {p : Nat} (hp : p < 64) {pb : Nat} (hq : q (p / 8) = some pb) {k : Nat} (hk : k < 6) : w.cell? ⟨pb, p % 8 * 6 + k, none⟩ = (slotList (m p))[k]? := by
  rw [(h.part _ _ (div8 p hp) hq).cell, partArr_at m _ (mod8 p) hk, dm8]

theorem at_in (h : Tab w bt q m) (p : Nat) (hp : p < 64) : Calls Try.prog 58 #[.pointer (some ⟨bt, 0, none⟩), .int .i64 p] w
    fun e w' => e = .returned (.pointer ((q (p / 8)).map fun b => ⟨b, p % 8 * 6, none⟩)) ∧ w = w' := by
  have hc := h.ptr hp
  cases hq : q (p / 8) with
  | none =>
    rw [hq] at hc
    simp only [ptrV, Option.map_none] at hc
    clear hq h
    go_enter Try.func58, Try.ntmps58
    go_wp2
    go_ret
    exact ⟨rfl, rfl⟩
  | some b =>
    rw [hq] at hc
    simp only [ptrV, Option.map_some] at hc
    clear hq h
    go_enter Try.func58, Try.ntmps58
    go_wp2
    go_ret
    exact ⟨by simp, rfl⟩

def gotV (o : Option E) : Value := .tuple #[(o.getD E.zero).val, .bool o.isSome]

theorem get_out (p : Int) (hp : p < 0 ∨ 64 ≤ p) (b : Nat) : Calls Try.prog 37 #[.pointer (some ⟨b, 0, none⟩), .int .i64 p] w
    fun e w' => e = .returned (gotV none) ∧ Below w.heap.size w w' := by
  go_enter Try.func37, Try.ntmps37
  go_wp2_with (go_at_call 58; refine (at_out _ _ hp _).mono ?_; rintro e w' ⟨rfl, rfl⟩)
  exact bodyPost_ret (v := gotV none) (by simp [results, Try.results37, go_sem, gotV, E.zero, E.val, E.arr]) rfl ⟨rfl, (Below.refl _ _).alloc (Nat.le_refl _) _⟩
theorem get_nil (p : Int) : Calls Try.prog 37 #[.pointer none, .int .i64 p] w
    fun e w' => e = .returned (gotV none) ∧ Below w.heap.size w w' := by
  go_enter Try.func37, Try.ntmps37
  go_wp2_with (go_at_call 58; refine (at_nil _ _).mono ?_; rintro e w' ⟨rfl, rfl⟩)
  exact bodyPost_ret (v := gotV none) (by simp [results, Try.results37, go_sem, gotV, E.zero, E.val, E.arr]) rfl ⟨rfl, (Below.refl _ _).alloc (Nat.le_refl _) _⟩

theorem get_none (h : Tab w bt q m) (p : Nat) (hp : p < 64) (hq : q (p / 8) = none) : Calls Try.prog 37 #[.pointer (some ⟨bt, 0, none⟩), .int .i64 p] w
    fun e w' => e = .returned (gotV none) ∧ Below w.heap.size w w' := by
  have ha := fun W (hW : Tab W bt q m) => at_in hW p hp
  rw [hq] at ha
  simp only [Option.map_none] at ha
  have h1 := h.alloc (.cells #[.int .i64 0, .bool false, .bool false, .bool false, .bool false] 71)
  have HA := Lib.hid ha
  clear ha hq h
  go_enter Try.func37, Try.ntmps37
  go_wp2_with (go_at_call 58; refine (HA.out _ h1).mono ?_; rintro e w' ⟨rfl, rfl⟩)
  exact bodyPost_ret (v := gotV none) (by simp [results, Try.results37, go_sem, gotV, E.zero, E.val, E.arr]) rfl ⟨rfl, (Below.refl _ _).alloc (Nat.le_refl _) _⟩

theorem get_some (h : Tab w bt q m) (p : Nat) (hp : p < 64) (pb : Nat) (hq : q (p / 8) = some pb) : Calls Try.prog 37 #[.pointer (some ⟨bt, 0, none⟩), .int .i64 p] w
    fun e w' => e = .returned (gotV (m p)) ∧ Below w.heap.size w w' := by
  have hpb := (h.part _ _ (div8 p hp) hq).lt
  have h0 := h.slot hp hq (k := 0) (by omega)
  have h1 := h.slot hp hq (k := 1) (by omega)
  have h2 := h.slot hp hq (k := 2) (by omega)
  have h3 := h.slot hp hq (k := 3) (by omega)
  have h4 := h.slot hp hq (k := 4) (by omega)
  have h5 := h.slot hp hq (k := 5) (by omega)
  have ha := fun W (hW : Tab W bt q m) => at_in hW p hp
  rw [hq] at ha
  simp only [Option.map_some] at ha
  have ht := h.alloc (.cells #[.int .i64 0, .bool false, .bool false, .bool false, .bool false] 71)
  have HA := Lib.hid ha
  clear ha hq h
  cases hm : m p with
  | none =>
    rw [hm] at h0 h1 h2 h3 h4 h5
    simp only [slotList, List.getElem?_cons_zero, List.getElem?_cons_succ, Nat.add_zero] at h0 h1 h2 h3 h4 h5
    clear hm
    go_enter Try.func37, Try.ntmps37
    go_wp2_with (go_at_call 58; refine (HA.out _ ht).mono ?_; rintro e w' ⟨rfl, rfl⟩)
    go_region
    go_wp2
    exact bodyPost_ret (v := gotV none) (by simp [results, Try.results37, go_sem, gotV, E.zero, E.val, E.arr]) rfl ⟨rfl, ((Below.refl _ _).alloc (Nat.le_refl _) _).drew⟩
  | some x =>
    obtain ⟨f, a, b, c, d⟩ := x
    rw [hm] at h0 h1 h2 h3 h4 h5
    simp only [slotList, List.getElem?_cons_zero, List.getElem?_cons_succ, Nat.add_zero] at h0 h1 h2 h3 h4 h5
    clear hm
    go_enter Try.func37, Try.ntmps37
    go_wp2_with (go_at_call 58; refine (HA.out _ ht).mono ?_; rintro e w' ⟨rfl, rfl⟩)
    go_region
    go_wp2
    exact bodyPost_ret (v := gotV (some ⟨f, a, b, c, d⟩)) (by simp [results, Try.results37, go_sem, gotV, E.val, E.arr]) rfl ⟨rfl, ((Below.refl _ _).alloc (Nat.le_refl _) _).drew⟩

/-- Get, whatever page is asked for. -/
theorem get_any (h : Tab w bt q m) (p : Int) : Calls Try.prog 37 #[.pointer (some ⟨bt, 0, none⟩), .int .i64 p] w
    fun e w' => e = .returned (gotV (look m p)) ∧ Below w.heap.size w w' := by
  by_cases hp : 0 ≤ p ∧ p < 64
  · obtain ⟨n, rfl⟩ := Int.eq_ofNat_of_zero_le hp.1
    have hn : n < 64 := by omega
    unfold look
    rw [if_pos hp, Int.toNat_natCast]
    cases hq : q (n / 8) with
    | none =>
      have := h.none_ _ _ (div8 n hn) hq (mod8 n)
      rw [dm8] at this
      rw [this]
      exact get_none h n hn hq
    | some pb => exact get_some h n hn pb hq
  · unfold look
    rw [if_neg hp]
    exact get_out p (by omega) bt
end

end Go.Proofs.Ytlecfdchmcghlaa
