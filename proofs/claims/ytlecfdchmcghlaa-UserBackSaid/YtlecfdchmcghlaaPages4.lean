/-
  Walks over package pages: Set on a part that is not there, and in all; Clear.
-/
import Derived.Test.YtlecfdchmcghlaaPages3
namespace Go.Proofs.Ytlecfdchmcghlaa
open Go.RowKit
set_option linter.unusedVariables false

section
variable {w : World} {bt : Nat} {q : Nat → Option Nat} {m : M}

/-- One part's address is turned. -/
def qset (q : Nat → Option Nat) (i : Nat) (o : Option Nat) : Nat → Option Nat := fun k => if k = i then o else q k
theorem tabArr_set (q : Nat → Option Nat) {i : Nat} (hi : i < 8) (o : Option Nat) : (tabArr q).setIfInBounds i (ptrV o) = tabArr (qset q i o) := by
  unfold tabArr qset
  rcases eight hi with rfl | rfl | rfl | rfl | rfl | rfl | rfl | rfl <;> simp

/-- A new, empty part, and one slot of it written. -/
theorem Tab.grow {w1 : World} (h : Tab w1 bt q m) {p : Nat} (hp : p < 64) (hq : q (p / 8) = none) (x : E) :
    Tab (World.slotSet ((w1.setCell ⟨bt, p / 8, none⟩ (.pointer (some ⟨w1.heap.size, 0, none⟩))).alloc (.cells (partArr (fun _ => none) 0) 105)) w1.heap.size (p % 8 * 6) (.int .i64 x.f) (.bool x.w) (.bool x.s) (.bool x.c) (.bool x.d) (.bool true))
      bt (qset q (p / 8) (some w1.heap.size)) (upd m p (some x)) := by
  have hlt := h.top.lt
  have h1 : Blk (w1.setCell ⟨bt, p / 8, none⟩ (.pointer (some ⟨w1.heap.size, 0, none⟩))) bt 61 (tabArr (qset q (p / 8) (some w1.heap.size))) := by
    have := h.top.set_ (p / 8) (ptrV (some w1.heap.size))
    rw [tabArr_set q (div8 p hp)] at this
    exact this
  have hsz : (w1.setCell ⟨bt, p / 8, none⟩ (.pointer (some ⟨w1.heap.size, 0, none⟩))).heap.size = w1.heap.size := by simp [World.setCell]
  have h2 := Blk.new (w1.setCell ⟨bt, p / 8, none⟩ (.pointer (some ⟨w1.heap.size, 0, none⟩))) 105 (partArr (fun _ => none) 0)
  rw [hsz] at h2
  have h3 := h2.slotSet (mod8 p) (some x) rfl
  have hz : partArr (upd (fun _ => none) (8 * 0 + p % 8) (some x)) 0 = partArr (upd m p (some x)) (p / 8) := by
    obtain ⟨A, B, hA, _, hu⟩ := partList_parts (fun _ => none) 0 (mod8 p)
    have e : ∀ j, j < 8 → upd (fun _ => none) (8 * 0 + p % 8) (some x) (8 * 0 + j) = upd m p (some x) (8 * (p / 8) + j) := by
      intro j hj
      unfold upd
      by_cases hjp : j = p % 8
      · rw [if_pos (by omega), if_pos (by omega)]
      · rw [if_neg (by omega), if_neg (by omega), h.none_ _ _ (div8 p hp) hq hj]
    have e0 := e 0 (by omega); have e1 := e 1 (by omega); have e2 := e 2 (by omega); have e3 := e 3 (by omega)
    have e4 := e 4 (by omega); have e5 := e 5 (by omega); have e6 := e 6 (by omega); have e7 := e 7 (by omega)
    simp only [Nat.add_zero] at e0
    unfold partArr partList
    rw [e0, e1, e2, e3, e4, e5, e6, e7]
  rw [hz] at h3
  refine ⟨(h1.alloc _).slotFar (by omega) _ _ _ _ _ _ _, fun i b hi hb => ?_, fun i b hi hb => ?_, fun i j hi hn hj => ?_, fun i j b hi hj hb hb' => ?_⟩
  · by_cases hip : i = p / 8
    · subst hip
      simp only [qset, if_true, Option.some.injEq] at hb
      subst hb
      exact h3
    · simp only [qset, if_neg hip] at hb
      have hpt := h.part _ _ hi hb
      have hbl := hpt.lt
      have := (((hpt.far (p := ⟨bt, p / 8, none⟩) (hpt.ne_ h.top (by decide)) (.pointer (some ⟨w1.heap.size, 0, none⟩))).alloc (.cells (partArr (fun _ => none) 0) 105)).slotFar (b := w1.heap.size) (by omega) (p % 8 * 6) (.int .i64 x.f) (.bool x.w) (.bool x.s) (.bool x.c) (.bool x.d) (.bool true))
      unfold partArr at this ⊢
      rw [partList_far m i (some x) (fun e => hip e.symm)]
      exact this
  · by_cases hip : i = p / 8
    · subst hip
      exact ⟨p % 8, mod8 p, by rw [dm8, upd_same]; rfl⟩
    · simp only [qset, if_neg hip] at hb
      obtain ⟨j, hj, hs⟩ := h.some_ i b hi hb
      exact ⟨j, hj, by rw [upd_other m (some x) (by omega)]; exact hs⟩
  · have hip : i ≠ p / 8 := by rintro rfl; simp [qset] at hn
    simp only [qset, if_neg hip] at hn
    rw [upd_other m (some x) (by omega)]
    exact h.none_ i j hi hn hj
  · by_cases hip : i = p / 8 <;> by_cases hjp : j = p / 8
    · omega
    · simp only [qset, if_neg hjp, hip, if_true, Option.some.injEq] at hb hb'
      have := (h.part _ _ hj hb').lt
      omega
    · simp only [qset, if_neg hip, hjp, if_true, Option.some.injEq] at hb hb'
      have := (h.part _ _ hi hb).lt
      omega
    · simp only [qset, if_neg hip, if_neg hjp] at hb hb'
      exact h.inj _ _ _ hi hj hb hb'

set_option maxHeartbeats 400000 in
theorem set_none (h : Tab w bt q m) (x : E) (hx : x.ok = true) (p : Nat) (hp : p < 64) (hq : q (p / 8) = none) : Calls Try.prog 27 #[.pointer (some ⟨bt, 0, none⟩), .int .i64 p, x.val] w
    fun e w' => e = .returned (.int .i64 0) ∧ Mut w bt q (upd m p (some x)) w' := by
  have hc : code x = 0 := by unfold code; rw [hx]; rfl
  have HC := Lib.hid (fun W => check_any x W)
  rw [hc] at HC
  have ht0 := h.alloc (.cells x.arr 71)
  have hx0 := Blk.new w 71 x.arr
  have hbut : But (Own bt q) w (w.alloc (.cells x.arr 71)) := (But.refl _ _).alloc _
  obtain ⟨f, c1, c2, c3, c4⟩ := x
  simp only [E.val, E.arr] at HC ht0 hx0 hbut ⊢
  clear hx hc
  have hlt := h.top.lt
  have HQ := Lib.hid hq
  have HB := Lib.hid hbut
  clear hbut hq
  go_enter Try.func27, Try.ntmps27
  go_wp2_with (go_at_call 45; refine (HC.out _).mono ?_; rintro e w1 ⟨rfl, hb1⟩; have ht1 := ht0.below hb1 (Nat.le_refl _); have hp1 := ht1.ptr hp; rw [HQ.out] at hp1; simp only [ptrV, Option.map_none] at hp1; have g1 := ht1.top.frozen (p / 8); have hlt1 := ht1.top.lt)
  obtain ⟨W2, hW2⟩ : ∃ W2, W2 = (w1.setCell ⟨bt, p / 8, none⟩ (.pointer (some ⟨w1.heap.size, 0, none⟩))).alloc (.cells (partArr (fun _ => none) 0) 105) := ⟨_, rfl⟩
  have hfin := ht1.grow hp HQ.out ⟨f, c1, c2, c3, c4⟩
  have hsz : (w1.setCell ⟨bt, p / 8, none⟩ (.pointer (some ⟨w1.heap.size, 0, none⟩))).heap.size = w1.heap.size := by simp [World.setCell]
  have hT := ht1.top.set_ (p / 8) (ptrV (some w1.heap.size))
  have hT2 : Blk W2 bt 61 ((tabArr q).setIfInBounds (p / 8) (ptrV (some w1.heap.size))) := by rw [hW2]; exact hT.alloc _
  have hP2 : Blk W2 w1.heap.size 105 (partArr (fun _ => none) 0) := by
    have := Blk.new (w1.setCell ⟨bt, p / 8, none⟩ (.pointer (some ⟨w1.heap.size, 0, none⟩))) 105 (partArr (fun _ => none) 0)
    rw [hsz] at this
    rw [hW2]; exact this
  have hX2 : Blk W2 w.heap.size 71 #[.int .i64 f, .bool c1, .bool c2, .bool c3, .bool c4] := by
    rw [hW2]; exact ((hx0.below hb1 (by simp)).far (p := ⟨bt, p / 8, none⟩) (by simp; omega) _).alloc _
  have hB2 : But (Own bt q) w W2 := by
    rw [hW2]; exact ((HB.out.thenBelow hb1 (by simp)).setCell (p := ⟨bt, p / 8, none⟩) (.inl (.inl rfl)) _).alloc _
  rw [← hW2] at hfin
  simp only [partArr, partList, slotList, List.cons_append, List.nil_append] at hW2
  rw [← hW2]
  have hp2 : W2.cell? ⟨bt, p / 8, none⟩ = some (.pointer (some ⟨w1.heap.size, 0, none⟩)) := by
    rw [hT2.cell, tabArr_set q (div8 p hp), tabArr_at _ (div8 p hp)]; simp [qset, ptrV]
  have sl : ∀ k, k < 6 → W2.cell? ⟨w1.heap.size, p % 8 * 6 + k, none⟩ = (slotList none)[k]? := fun k hk => by rw [hP2.cell, partArr_at _ 0 (mod8 p) hk]
  have s0 := sl 0 (by omega)
  have s1 := sl 1 (by omega)
  have s2 := sl 2 (by omega)
  have s3 := sl 3 (by omega)
  have s4 := sl 4 (by omega)
  have s5 := sl 5 (by omega)
  simp only [slotList, List.getElem?_cons_zero, List.getElem?_cons_succ, Nat.add_zero] at s0 s1 s2 s3 s4 s5
  have b0 := hX2.cell 0
  have b1 := hX2.cell 1
  have b2 := hX2.cell 2
  have b3 := hX2.cell 3
  have b4 := hX2.cell 4
  simp only [List.getElem?_toArray, List.getElem?_cons_zero, List.getElem?_cons_succ] at b0 b1 b2 b3 b4
  have f0 := hP2.frozen (p % 8 * 6)
  have f1 := hP2.frozen (p % 8 * 6 + 1)
  have f2 := hP2.frozen (p % 8 * 6 + 2)
  have f3 := hP2.frozen (p % 8 * 6 + 3)
  have f4 := hP2.frozen (p % 8 * 6 + 4)
  have f5 := hP2.frozen (p % 8 * 6 + 5)
  have hle : w.heap.size ≤ w1.heap.size := by have := hb1.size; simp at this; omega
  have HB2 := Lib.hid hB2
  have HF := Lib.hid hfin
  clear hB2 hfin hT hT2 hP2 hX2 hW2 hsz sl ht1 hp1 g1 hb1 h ht0 hx0 HC HB
  go_region
  go_wp2
  go_ret
  refine ⟨rfl, _, HF.out.drew, (HB2.out.slotSet (.inr hle) _ _ _ _ _ _ _).drew, fun k hk => ?_⟩
  rcases hk with rfl | ⟨i, hi, hk⟩
  · exact .inl (.inl rfl)
  · unfold qset at hk
    split at hk
    · cases hk; exact .inr hle
    · exact .inl (.inr ⟨i, hi, hk⟩)

theorem set_out (x : E) (hx : x.ok = true) (p : Int) (hp : p < 0 ∨ 64 ≤ p) (b : Nat) : Calls Try.prog 27 #[.pointer (some ⟨b, 0, none⟩), .int .i64 p, x.val] w
    fun e w' => e = .returned (.int .i64 50) ∧ Below w.heap.size w w' := by
  have hc : code x = 0 := by unfold code; rw [hx]; rfl
  have HC := Lib.hid (fun W => check_any x W)
  rw [hc] at HC
  obtain ⟨f, c1, c2, c3, c4⟩ := x
  simp only [E.val, E.arr] at HC ⊢
  clear hx hc
  by_cases hp' : p < 0
  · clear hp
    go_enter Try.func27, Try.ntmps27
    go_wp2_with (go_at_call 45; refine (HC.out _).mono ?_; rintro e w1 ⟨rfl, hb1⟩)
    go_ret
    exact ⟨rfl, ((Below.refl _ _).alloc (Nat.le_refl _) _).trans (hb1.mono (by simp))⟩
  · have hp2 : 64 ≤ p := by omega
    clear hp
    go_enter Try.func27, Try.ntmps27
    go_wp2_with (go_at_call 45; refine (HC.out _).mono ?_; rintro e w1 ⟨rfl, hb1⟩)
    go_ret
    exact ⟨rfl, ((Below.refl _ _).alloc (Nat.le_refl _) _).trans (hb1.mono (by simp))⟩
theorem set_nil (x : E) (p : Int) : Calls Try.prog 27 #[.pointer none, .int .i64 p, x.val] w
    fun e w' => e = .returned (.int .i64 1) ∧ Below w.heap.size w w' := by
  have HC := Lib.hid (fun W => check_any x W)
  obtain ⟨f, c1, c2, c3, c4⟩ := x
  simp only [E.val, E.arr] at HC ⊢
  go_enter Try.func27, Try.ntmps27
  go_wp2_with (go_at_call 45; refine (HC.out _).mono ?_; rintro e w1 ⟨rfl, hb1⟩)
  go_ret
  exact ⟨rfl, ((Below.refl _ _).alloc (Nat.le_refl _) _).trans (hb1.mono (by simp))⟩

theorem Tab.mut_below {w' : World} (h : Tab w bt q m) (hb : Below w.heap.size w w') : Mut w bt q m w' :=
  ⟨q, h.below hb (Nat.le_refl _), But.of_below hb, fun k hk => .inl hk⟩

/-- May this page be set to this? -/
def may (p : Int) (x : E) : Bool := x.ok && decide (0 ≤ p) && decide (p < 64)
def setM (m : M) (p : Int) (x : E) : M := if may p x then upd m p.toNat (some x) else m

/-- Set, whatever page and entry. -/
theorem set_any (h : Tab w bt q m) (x : E) (p : Int) : Calls Try.prog 27 #[.pointer (some ⟨bt, 0, none⟩), .int .i64 p, x.val] w
    fun e w' => e = .returned (.int .i64 (if may p x then 0 else 50)) ∧ Mut w bt q (setM m p x) w' := by
  cases hx : x.ok with
  | false =>
    have hm : may p x = false := by simp [may, hx]
    simp only [setM, hm, Bool.false_eq_true, if_false]
    exact (set_bad x hx p bt).mono fun e w' ⟨he, hb⟩ => ⟨he, h.mut_below hb⟩
  | true =>
    by_cases hp : 0 ≤ p ∧ p < 64
    · obtain ⟨n, rfl⟩ := Int.eq_ofNat_of_zero_le hp.1
      have hn : n < 64 := by omega
      have hm : may n x = true := by simp [may, hx]; omega
      simp only [setM, hm, if_true, Int.toNat_natCast]
      cases hq : q (n / 8) with
      | none => exact set_none h x hx n hn hq
      | some pb => exact set_some h x hx n hn pb hq
    · have hm : may p x = false := by simp [may, hx]; omega
      simp only [setM, hm, Bool.false_eq_true, if_false]
      exact (set_out x hx p (by omega) bt).mono fun e w' ⟨he, hb⟩ => ⟨he, h.mut_below hb⟩
end

end Go.Proofs.Ytlecfdchmcghlaa
