/-
  Walks over package carryalllaw05: grown and on: tables behind calls.
-/
import Derived.StillTailTactics
import Derived.Test.YtgdimjcpdndklaaPages11
namespace Go.Proofs.Ytgdimjcpdndklaa
open Go.RowKit
set_option linter.unusedVariables false

/-- A call. -/
structure O where
  k : Int
  p : Int
  x : E

/-- A slice of calls in memory. -/
def OpsAt (w : World) (A : Option Addr) (l : List O) : Prop :=
  ∀ (i : Nat) (o : O), l[i]? = some o → ∃ b off, A = some ⟨b, off, none⟩ ∧ b < w.heap.size ∧ w.cell? ⟨b, off + i * 7, none⟩ = some (.int .i64 o.k) ∧ w.cell? ⟨b, off + i * 7 + 1, none⟩ = some (.int .i64 o.p) ∧
    w.cell? ⟨b, off + i * 7 + 2, none⟩ = some (.int .i64 o.x.f) ∧ w.cell? ⟨b, off + i * 7 + 2 + 1, none⟩ = some (.bool o.x.w) ∧ w.cell? ⟨b, off + i * 7 + 2 + 2, none⟩ = some (.bool o.x.s) ∧ w.cell? ⟨b, off + i * 7 + 2 + 3, none⟩ = some (.bool o.x.c) ∧ w.cell? ⟨b, off + i * 7 + 2 + 4, none⟩ = some (.bool o.x.d)
theorem OpsAt.below {w w' : World} {A : Option Addr} {l : List O} (h : OpsAt w A l) (hb : Below w.heap.size w w') : OpsAt w' A l := fun i o ho => by
  obtain ⟨b, off, hA, hlt, h0, h1, h2, h3, h4, h5, h6⟩ := h i o ho
  exact ⟨b, off, hA, Nat.lt_of_lt_of_le hlt hb.size, (hb.cell (p := ⟨b, _, none⟩) hlt).trans h0, (hb.cell (p := ⟨b, _, none⟩) hlt).trans h1, (hb.cell (p := ⟨b, _, none⟩) hlt).trans h2, (hb.cell (p := ⟨b, _, none⟩) hlt).trans h3, (hb.cell (p := ⟨b, _, none⟩) hlt).trans h4, (hb.cell (p := ⟨b, _, none⟩) hlt).trans h5, (hb.cell (p := ⟨b, _, none⟩) hlt).trans h6⟩

theorem OpsAt.belowB {w w' : World} {A : Option Addr} {l : List O} {B : Nat} (h : OpsAt w A l) (hb : Below B w w') (hl : ∀ b off, A = some ⟨b, off, none⟩ → b < B) : OpsAt w' A l := fun i o ho => by
  obtain ⟨b, off, hA, hlt, h0, h1, h2, h3, h4, h5, h6⟩ := h i o ho
  have hlB := hl b off hA
  exact ⟨b, off, hA, Nat.lt_of_lt_of_le hlt hb.size, (hb.cell (p := ⟨b, _, none⟩) hlB).trans h0, (hb.cell (p := ⟨b, _, none⟩) hlB).trans h1, (hb.cell (p := ⟨b, _, none⟩) hlB).trans h2, (hb.cell (p := ⟨b, _, none⟩) hlB).trans h3, (hb.cell (p := ⟨b, _, none⟩) hlB).trans h4, (hb.cell (p := ⟨b, _, none⟩) hlB).trans h5, (hb.cell (p := ⟨b, _, none⟩) hlB).trans h6⟩

/-- A table behind one call, and behind some. -/
def stepM (m : M) (o : O) : M := if o.k = 0 then setM m o.p o.x else if o.k = 1 then clearM m o.p else if o.k = 2 then cl m else m
def runM (m : M) (l : List O) : M := l.foldl stepM m
theorem runM_snoc (m : M) (l : List O) (o : O) : runM m (l ++ [o]) = stepM (runM m l) o := by simp [runM]

/-- A table all of whose blocks lie from base on. -/
def TabNew (w : World) (base bt : Nat) (m : M) : Prop := ∃ q, Tab w bt q m ∧ ∀ k, Own bt q k → base ≤ k
theorem Mut.new {w w' : World} {bt : Nat} {q : Nat → Option Nat} {m' : M} {base : Nat} (h : Mut w bt q m' w') (hq : ∀ k, Own bt q k → base ≤ k) (hb : base ≤ w.heap.size) : TabNew w' base bt m' ∧ Below base w w' := by
  obtain ⟨q', ht, hbut, ho⟩ := h
  exact ⟨⟨q', ht, fun k hk => by rcases ho k hk with h | h; exact hq k h; omega⟩, hbut.below hq hb⟩

theorem TabNew.drew {w : World} {base bt : Nat} {m : M} (h : TabNew w base bt m) : TabNew w.drew base bt m := by
  obtain ⟨q, ht, ho⟩ := h; exact ⟨q, ht.drew, ho⟩
theorem TabNew.below {w w' : World} {base bt : Nat} {m : M} (h : TabNew w base bt m) (hb : Below w.heap.size w w') : TabNew w' base bt m := by
  obtain ⟨q, ht, ho⟩ := h; exact ⟨q, ht.below hb (Nat.le_refl _), ho⟩
theorem TabNew.lt {w : World} {base bt : Nat} {m : M} (h : TabNew w base bt m) : bt < w.heap.size := by
  obtain ⟨q, ht, ho⟩ := h; exact ht.top.lt

theorem tabNew_empty (w : World) : TabNew (w.alloc (.cells #[.pointer none, .pointer none, .pointer none, .pointer none, .pointer none, .pointer none, .pointer none, .pointer none] 49)) w.heap.size w.heap.size (fun _ => none) := by
  refine ⟨fun _ => none, ⟨Blk.new w _ _, fun _ _ _ h => (by cases h), fun _ _ _ h => (by cases h), fun _ _ _ _ _ => rfl, fun _ _ _ _ _ h => (by cases h)⟩, fun k hk => ?_⟩
  rcases hk with rfl | ⟨_, _, h⟩
  · exact Nat.le_refl _
  · cases h

section
variable {w : World} {base bt : Nat} {m : M}
theorem set_new (h : TabNew w base bt m) (hb : base ≤ w.heap.size) (x : E) (p : Int) : Calls Try.prog 16 #[.pointer (some ⟨bt, 0, none⟩), .int .i64 p, x.val] w
    fun e w' => e = .returned (.int .i64 (if may p x then 0 else 50)) ∧ TabNew w' base bt (setM m p x) ∧ Below base w w' := by
  obtain ⟨q, ht, ho⟩ := h
  exact (set_any ht x p).mono fun e w' ⟨he, hm⟩ => ⟨he, hm.new ho hb⟩
theorem clear_new (h : TabNew w base bt m) (hb : base ≤ w.heap.size) (p : Int) : Calls Try.prog 19 #[.pointer (some ⟨bt, 0, none⟩), .int .i64 p] w
    fun e w' => e = .returned (gotV (look m p)) ∧ TabNew w' base bt (clearM m p) ∧ Below base w w' := by
  obtain ⟨q, ht, ho⟩ := h
  exact (clear_any ht p).mono fun e w' ⟨he, hm⟩ => ⟨he, hm.new ho hb⟩
theorem clean_new (h : TabNew w base bt m) (hb : base ≤ w.heap.size) : Calls Try.prog 20 #[.pointer (some ⟨bt, 0, none⟩)] w
    fun e w' => e = .returned (.int .i64 (filt E.d (list m)).length) ∧ TabNew w' base bt (cl m) ∧ Below base w w' := by
  obtain ⟨q, ht, ho⟩ := h
  exact (clean_any ht).mono fun e w' ⟨he, hm⟩ => ⟨he, hm.new ho hb⟩
theorem get_new (h : TabNew w base bt m) (p : Int) : Calls Try.prog 13 #[.pointer (some ⟨bt, 0, none⟩), .int .i64 p] w
    fun e w' => e = .returned (gotV (look m p)) ∧ Below w.heap.size w w' := by
  obtain ⟨q, ht, ho⟩ := h
  exact get_any ht p
end

set_option maxHeartbeats 2000000 in
theorem grown_any {w : World} (A : Option Addr) (c : Nat) (l : List O) (hl : l.length ≤ 150) (hO : OpsAt w A l) : Calls Try.prog 11 #[.slice A l.length c] w
    fun e w' => e = .returned (.pointer (some ⟨w.heap.size, 0, none⟩)) ∧ TabNew w' w.heap.size w.heap.size (runM (fun _ => none) l) ∧ Below w.heap.size w w' := by
  have hT0 : TabNew (w.alloc (.cells #[.pointer none, .pointer none, .pointer none, .pointer none, .pointer none, .pointer none, .pointer none, .pointer none] 49)) w.heap.size w.heap.size (fun _ => none) :=
    tabNew_empty w
  go_enter Try.func11, Try.ntmps11
  go_wp2
  go_loopw [9] (fun i wr => ∃ k : Nat, k ≤ l.length ∧ i = .int .i64 k ∧ TabNew wr w.heap.size w.heap.size (runM (fun _ => none) (l.take k)) ∧ Below w.heap.size w wr) (fun i _ => l.length - (intOf i).toNat)
  case atStart => exact ⟨0, by omega, rfl, hT0, (Below.refl _ _).alloc (Nat.le_refl _) _⟩
  case round =>
    obtain ⟨k, hk, rfl, hT, hB⟩ := hrel
    by_cases hlt : k < l.length
    · have hsz := hB.size
      have hOr := hO.below hB
      obtain ⟨o, ho⟩ : ∃ o, l[k]? = some o := ⟨_, List.getElem?_eq_getElem hlt⟩
      have htk : runM (fun _ => none) (l.take (k + 1)) = stepM (runM (fun _ => none) (l.take k)) o := by
        rw [List.take_add_one, ho]; exact runM_snoc _ _ _
      obtain ⟨b, off, rfl, hbl, c0, c1, c2, c3, c4, c5, c6⟩ := hOr k o ho
      have hlt' : (k : Int) < (l.length : Int) := by omega
      obtain ⟨ok, op, ox⟩ := o
      generalize runM (fun _ => none) (l.take k) = m at *
      simp only [stepM] at htk c0 c1 c2 c3 c4 c5 c6
      have hT' := hT
      clear hOr ho hO hT0 hT
      by_cases k0 : ok = 0
      · rw [if_pos k0] at htk
        subst k0
        have HTK := Lib.hid htk
        obtain ⟨f, e1, e2, e3, e4⟩ := ox
        have hset := fun W (h : TabNew W w.heap.size w.heap.size m) (hb : w.heap.size ≤ W.heap.size) => set_new h hb ⟨f, e1, e2, e3, e4⟩ op
        simp only [E.val, E.arr] at hset c2 c3 c4 c5 c6
        have HS := Lib.hid hset
        clear htk hset
        go_upto_region 7 with (fail)
        go_still_tail 11, (by kernel_rfl)
        change wpList _ _ _ _ _ wr.drew
        go_wp2_with (go_at_call 16; refine (HS.out _ hT'.drew hsz).mono ?_; rintro e w1 ⟨rfl, hT1, hb1⟩)
        go_roundw
        case rel => exact ⟨k + 1, by omega, by go_num, by rw [HTK.out]; exact hT1, hB.drew.trans hb1⟩
        case measure => simp [intOf]; omega
      · rw [if_neg k0] at htk
        have n0 : (ok == 0) = false := beq_eq_false_iff_ne.2 k0
        by_cases k1 : ok = 1
        · rw [if_pos k1] at htk
          subst k1
          have HTK := Lib.hid htk
          have HS := Lib.hid (fun W (h : TabNew W w.heap.size w.heap.size m) (hb : w.heap.size ≤ W.heap.size) => clear_new h hb op)
          clear htk k0 n0
          go_wp2_with (go_at_call 19; refine (HS.out _ hT' hsz).mono ?_; rintro e w1 ⟨rfl, hT1, hb1⟩)
          go_roundw
          case rel => exact ⟨k + 1, by omega, by go_num, by rw [HTK.out]; exact hT1, hB.trans hb1⟩
          case measure => simp [intOf]; omega
        · rw [if_neg k1] at htk
          have n1 : (ok == 1) = false := beq_eq_false_iff_ne.2 k1
          by_cases k2 : ok = 2
          · rw [if_pos k2] at htk
            subst k2
            have HTK := Lib.hid htk
            have HS := Lib.hid (fun W (h : TabNew W w.heap.size w.heap.size m) (hb : w.heap.size ≤ W.heap.size) => clean_new h hb)
            clear htk k0 n0 k1 n1
            go_wp2_with (go_at_call 20; refine (HS.out _ hT' hsz).mono ?_; rintro e w1 ⟨rfl, hT1, hb1⟩)
            go_roundw
            case rel => exact ⟨k + 1, by omega, by go_num, by rw [HTK.out]; exact hT1, hB.trans hb1⟩
            case measure => simp [intOf]; omega
          · rw [if_neg k2] at htk
            have n2 : (ok == 2) = false := beq_eq_false_iff_ne.2 k2
            have HTK := Lib.hid htk
            clear htk k0 k1 k2
            go_wp2
            go_roundw
            case rel => exact ⟨k + 1, by omega, by go_num, by rw [HTK.out]; exact hT', hB⟩
            case measure => simp [intOf]; omega
    · have hkl : l.take k = l := List.take_of_length_le (by omega)
      rw [hkl] at hT
      clear hkl
      go_wp2
      go_ret
      exact ⟨rfl, hT, hB⟩
set_option maxHeartbeats 2000000 in
theorem on_any {w : World} {base bt : Nat} {m0 : M} (hT0 : TabNew w base bt m0) (hb0 : base ≤ w.heap.size) (A : Option Addr) (c : Nat) (l : List O) (hl : l.length ≤ 150) (hO : OpsAt w A l) (hlow : ∀ b off, A = some ⟨b, off, none⟩ → b < base) : Calls Try.prog 30 #[.pointer (some ⟨bt, 0, none⟩), .slice A l.length c] w
    fun e w' => e = .returned (.tuple #[]) ∧ TabNew w' base bt (runM m0 l) ∧ Below base w w' := by
  go_enter Try.func30, Try.ntmps30
  go_wp2
  go_loopw [7] (fun i wr => ∃ k : Nat, k ≤ l.length ∧ i = .int .i64 k ∧ TabNew wr base bt (runM m0 (l.take k)) ∧ Below base w wr) (fun i _ => l.length - (intOf i).toNat)
  case atStart => exact ⟨0, by omega, rfl, hT0, Below.refl _ _⟩
  case round =>
    obtain ⟨k, hk, rfl, hT, hB⟩ := hrel
    by_cases hlt : k < l.length
    · have hsz := Nat.le_trans hb0 hB.size
      have hOr := hO.belowB hB hlow
      obtain ⟨o, ho⟩ : ∃ o, l[k]? = some o := ⟨_, List.getElem?_eq_getElem hlt⟩
      have htk : runM m0 (l.take (k + 1)) = stepM (runM m0 (l.take k)) o := by
        rw [List.take_add_one, ho]; exact runM_snoc _ _ _
      obtain ⟨b, off, rfl, hbl, c0, c1, c2, c3, c4, c5, c6⟩ := hOr k o ho
      have hlt' : (k : Int) < (l.length : Int) := by omega
      obtain ⟨ok, op, ox⟩ := o
      generalize runM m0 (l.take k) = m at *
      simp only [stepM] at htk c0 c1 c2 c3 c4 c5 c6
      have hT' := hT
      clear hOr ho hO hT0 hT
      by_cases k0 : ok = 0
      · rw [if_pos k0] at htk
        subst k0
        have HTK := Lib.hid htk
        obtain ⟨f, e1, e2, e3, e4⟩ := ox
        have hset := fun W (h : TabNew W base bt m) (hb : base ≤ W.heap.size) => set_new h hb ⟨f, e1, e2, e3, e4⟩ op
        simp only [E.val, E.arr] at hset c2 c3 c4 c5 c6
        have HS := Lib.hid hset
        clear htk hset
        go_upto_region 5 with (fail)
        go_still_tail 11, (by kernel_rfl)
        change wpList _ _ _ _ _ wr.drew
        go_wp2_with (go_at_call 16; refine (HS.out _ hT'.drew hsz).mono ?_; rintro e w1 ⟨rfl, hT1, hb1⟩)
        go_roundw
        case rel => exact ⟨k + 1, by omega, by go_num, by rw [HTK.out]; exact hT1, hB.drew.trans hb1⟩
        case measure => simp [intOf]; omega
      · rw [if_neg k0] at htk
        have n0 : (ok == 0) = false := beq_eq_false_iff_ne.2 k0
        by_cases k1 : ok = 1
        · rw [if_pos k1] at htk
          subst k1
          have HTK := Lib.hid htk
          have HS := Lib.hid (fun W (h : TabNew W base bt m) (hb : base ≤ W.heap.size) => clear_new h hb op)
          clear htk k0 n0
          go_wp2_with (go_at_call 19; refine (HS.out _ hT' hsz).mono ?_; rintro e w1 ⟨rfl, hT1, hb1⟩)
          go_roundw
          case rel => exact ⟨k + 1, by omega, by go_num, by rw [HTK.out]; exact hT1, hB.trans hb1⟩
          case measure => simp [intOf]; omega
        · rw [if_neg k1] at htk
          have n1 : (ok == 1) = false := beq_eq_false_iff_ne.2 k1
          by_cases k2 : ok = 2
          · rw [if_pos k2] at htk
            subst k2
            have HTK := Lib.hid htk
            have HS := Lib.hid (fun W (h : TabNew W base bt m) (hb : base ≤ W.heap.size) => clean_new h hb)
            clear htk k0 n0 k1 n1
            go_wp2_with (go_at_call 20; refine (HS.out _ hT' hsz).mono ?_; rintro e w1 ⟨rfl, hT1, hb1⟩)
            go_roundw
            case rel => exact ⟨k + 1, by omega, by go_num, by rw [HTK.out]; exact hT1, hB.trans hb1⟩
            case measure => simp [intOf]; omega
          · rw [if_neg k2] at htk
            have n2 : (ok == 2) = false := beq_eq_false_iff_ne.2 k2
            have HTK := Lib.hid htk
            clear htk k0 k1 k2
            go_wp2
            go_roundw
            case rel => exact ⟨k + 1, by omega, by go_num, by rw [HTK.out]; exact hT', hB⟩
            case measure => simp [intOf]; omega
    · have hkl : l.take k = l := List.take_of_length_le (by omega)
      rw [hkl] at hT
      clear hkl
      go_wp2
      go_end0
      exact ⟨rfl, hT, hB⟩
end Go.Proofs.Ytgdimjcpdndklaa
