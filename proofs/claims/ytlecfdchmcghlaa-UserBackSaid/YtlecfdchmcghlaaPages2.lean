/-
  Walks over package pages: Set, Clear.
-/
import Derived.Test.YtlecfdchmcghlaaPages1
namespace Go.Proofs.Ytlecfdchmcghlaa
open Go.RowKit
set_option linter.unusedVariables false
set_option linter.unusedSimpArgs false

section
variable {w : World} {bt : Nat} {q : Nat → Option Nat} {m : M}

theorem set_bad (x : E) (hx : x.ok = false) (p : Int) (b : Nat) : Calls Try.prog 27 #[.pointer (some ⟨b, 0, none⟩), .int .i64 p, x.val] w
    fun e w' => e = .returned (.int .i64 50) ∧ Below w.heap.size w w' := by
  have hc : code x = 50 := by unfold code; rw [hx]; rfl
  have HC := Lib.hid (fun W => check_any x W)
  rw [hc] at HC
  obtain ⟨f, c1, c2, c3, c4⟩ := x
  simp only [E.val, E.arr] at HC ⊢
  clear hx hc
  go_enter Try.func27, Try.ntmps27
  go_wp2_with (go_at_call 45; refine (HC.out _).mono ?_; rintro e w1 ⟨rfl, hb1⟩)
  go_ret
  refine ⟨rfl, ((Below.refl _ _).alloc (Nat.le_refl _) _).trans (hb1.mono (by simp))⟩

theorem slotList_form (o : Option E) : ∃ v0 v1 v2 v3 v4 v5 : Value, slotList o = [v0, v1, v2, v3, v4, v5] := by cases o <;> exact ⟨_, _, _, _, _, _, rfl⟩

/-- The table behind a change of one page. -/
def upd (m : M) (p : Nat) (o : Option E) : M := fun n => if n = p then o else m n
theorem upd_same (m : M) (p : Nat) (o : Option E) : upd m p o p = o := if_pos rfl
theorem upd_other (m : M) {p n : Nat} (o : Option E) (h : n ≠ p) : upd m p o n = m n := if_neg h

theorem set6 (A B : List Value) (v0 v1 v2 v3 v4 v5 u0 u1 u2 u3 u4 u5 : Value) (n : Nat) (hn : n = A.length) :
    ((((((A ++ [v0, v1, v2, v3, v4, v5] ++ B).toArray.setIfInBounds n u0).setIfInBounds (n + 1) u1).setIfInBounds (n + 2) u2).setIfInBounds (n + 3) u3).setIfInBounds (n + 4) u4).setIfInBounds (n + 5) u5
      = (A ++ [u0, u1, u2, u3, u4, u5] ++ B).toArray := by
  subst hn
  simp [List.setIfInBounds_toArray, List.set_append]

theorem partList_parts (m : M) (i : Nat) {j : Nat} (hj : j < 8) : ∃ A B : List Value, A.length = j * 6 ∧ partList m i = A ++ slotList (m (8 * i + j)) ++ B ∧ ∀ o, partList (upd m (8 * i + j) o) i = A ++ slotList o ++ B := by
  unfold partList
  rcases eight hj with rfl | rfl | rfl | rfl | rfl | rfl | rfl | rfl
  · exact ⟨[], slotList (m (8*i+1)) ++ slotList (m (8*i+2)) ++ slotList (m (8*i+3)) ++ slotList (m (8*i+4)) ++ slotList (m (8*i+5)) ++ slotList (m (8*i+6)) ++ slotList (m (8*i+7)), by simp, by simp, fun o => by simp [upd]⟩
  · exact ⟨slotList (m (8*i)), slotList (m (8*i+2)) ++ slotList (m (8*i+3)) ++ slotList (m (8*i+4)) ++ slotList (m (8*i+5)) ++ slotList (m (8*i+6)) ++ slotList (m (8*i+7)), by simp [slotList_len], by simp, fun o => by simp [upd]⟩
  · exact ⟨slotList (m (8*i)) ++ slotList (m (8*i+1)), slotList (m (8*i+3)) ++ slotList (m (8*i+4)) ++ slotList (m (8*i+5)) ++ slotList (m (8*i+6)) ++ slotList (m (8*i+7)), by simp [slotList_len], by simp, fun o => by simp [upd]⟩
  · exact ⟨slotList (m (8*i)) ++ slotList (m (8*i+1)) ++ slotList (m (8*i+2)), slotList (m (8*i+4)) ++ slotList (m (8*i+5)) ++ slotList (m (8*i+6)) ++ slotList (m (8*i+7)), by simp [slotList_len], by simp, fun o => by simp [upd]⟩
  · exact ⟨slotList (m (8*i)) ++ slotList (m (8*i+1)) ++ slotList (m (8*i+2)) ++ slotList (m (8*i+3)), slotList (m (8*i+5)) ++ slotList (m (8*i+6)) ++ slotList (m (8*i+7)), by simp [slotList_len], by simp, fun o => by simp [upd]⟩
  · exact ⟨slotList (m (8*i)) ++ slotList (m (8*i+1)) ++ slotList (m (8*i+2)) ++ slotList (m (8*i+3)) ++ slotList (m (8*i+4)), slotList (m (8*i+6)) ++ slotList (m (8*i+7)), by simp [slotList_len], by simp, fun o => by simp [upd]⟩
  · exact ⟨slotList (m (8*i)) ++ slotList (m (8*i+1)) ++ slotList (m (8*i+2)) ++ slotList (m (8*i+3)) ++ slotList (m (8*i+4)) ++ slotList (m (8*i+5)), slotList (m (8*i+7)), by simp [slotList_len], by simp, fun o => by simp [upd]⟩
  · exact ⟨slotList (m (8*i)) ++ slotList (m (8*i+1)) ++ slotList (m (8*i+2)) ++ slotList (m (8*i+3)) ++ slotList (m (8*i+4)) ++ slotList (m (8*i+5)) ++ slotList (m (8*i+6)), [], by simp [slotList_len], by simp, fun o => by simp [upd]⟩
theorem partList_far (m : M) (i : Nat) {p : Nat} (o : Option E) (hp : p / 8 ≠ i) : partList (upd m p o) i = partList m i := by
  unfold partList
  rw [upd_other m o (by omega), upd_other m o (by omega), upd_other m o (by omega), upd_other m o (by omega), upd_other m o (by omega), upd_other m o (by omega), upd_other m o (by omega), upd_other m o (by omega)]

/-- A slot is written. -/
def World.slotSet (w : World) (b o : Nat) (u0 u1 u2 u3 u4 u5 : Value) : World :=
  (((((w.setCell ⟨b, o, none⟩ u0).setCell ⟨b, o + 1, none⟩ u1).setCell ⟨b, o + 2, none⟩ u2).setCell ⟨b, o + 3, none⟩ u3).setCell ⟨b, o + 4, none⟩ u4).setCell ⟨b, o + 5, none⟩ u5
theorem Blk.slotSet {w : World} {b : Nat} {t : TypeId} {m : M} {i j : Nat} (hj : j < 8) (h : Blk w b t (partArr m i)) {u0 u1 u2 u3 u4 u5 : Value} (o : Option E) (ho : slotList o = [u0, u1, u2, u3, u4, u5]) :
    Blk (World.slotSet w b (j * 6) u0 u1 u2 u3 u4 u5) b t (partArr (upd m (8 * i + j) o) i) := by
  have h1 := (((((h.set_ (j * 6) u0).set_ (j * 6 + 1) u1).set_ (j * 6 + 2) u2).set_ (j * 6 + 3) u3).set_ (j * 6 + 4) u4).set_ (j * 6 + 5) u5
  obtain ⟨A, B, hA, hm, hu⟩ := partList_parts m i hj
  obtain ⟨v0, v1, v2, v3, v4, v5, hv⟩ := slotList_form (m (8 * i + j))
  unfold partArr at h1 ⊢
  rw [hm, hv, set6 A B v0 v1 v2 v3 v4 v5 u0 u1 u2 u3 u4 u5 (j * 6) hA.symm] at h1
  rw [hu, ho]
  exact h1
theorem Blk.slotFar {w : World} {b g : Nat} {t : TypeId} {cs : Array Value} (h : Blk w g t cs) (hne : g ≠ b) (o : Nat) (u0 u1 u2 u3 u4 u5 : Value) : Blk (World.slotSet w b o u0 u1 u2 u3 u4 u5) g t cs :=
  (((((h.far (p := ⟨b, _, none⟩) hne _).far (p := ⟨b, _, none⟩) hne _).far (p := ⟨b, _, none⟩) hne _).far (p := ⟨b, _, none⟩) hne _).far (p := ⟨b, _, none⟩) hne _).far (p := ⟨b, _, none⟩) hne _
theorem But.slotSet {S : Nat → Prop} {a w : World} (h : But S a w) {b : Nat} (hb : S b ∨ a.heap.size ≤ b) (o : Nat) (u0 u1 u2 u3 u4 u5 : Value) : But S a (World.slotSet w b o u0 u1 u2 u3 u4 u5) :=
  (((((h.setCell (p := ⟨b, _, none⟩) hb _).setCell (p := ⟨b, _, none⟩) hb _).setCell (p := ⟨b, _, none⟩) hb _).setCell (p := ⟨b, _, none⟩) hb _).setCell (p := ⟨b, _, none⟩) hb _).setCell (p := ⟨b, _, none⟩) hb _

/-- A table's own blocks. -/
def Own (bt : Nat) (q : Nat → Option Nat) (k : Nat) : Prop := k = bt ∨ ∃ i, i < 8 ∧ q i = some k
/-- What a call on a table leaves: the table m', in blocks of its own or new ones; nothing else is turned. -/
def Mut (w : World) (bt : Nat) (q : Nat → Option Nat) (m' : M) (w' : World) : Prop :=
  ∃ q', Tab w' bt q' m' ∧ But (Own bt q) w w' ∧ ∀ k, Own bt q' k → Own bt q k ∨ w.heap.size ≤ k

theorem Tab.drew {w : World} (h : Tab w bt q m) : Tab w.drew bt q m := ⟨h.top, h.part, h.some_, h.none_, h.inj⟩
theorem Tab.own_lt {w : World} (h : Tab w bt q m) {k : Nat} (hk : Own bt q k) : k < w.heap.size := by
  rcases hk with rfl | ⟨i, hi, hq⟩
  · exact h.top.lt
  · exact (h.part _ _ hi hq).lt

/-- A slot of a part that is there is written. -/
theorem Tab.put {w : World} (h : Tab w bt q m) {p : Nat} (hp : p < 64) {pb : Nat} (hq : q (p / 8) = some pb) (x : E) :
    Tab (World.slotSet w pb (p % 8 * 6) (.int .i64 x.f) (.bool x.w) (.bool x.s) (.bool x.c) (.bool x.d) (.bool true)) bt q (upd m p (some x)) := by
  have hpt := h.part _ _ (div8 p hp) hq
  refine ⟨h.top.slotFar (h.top.ne_ hpt (by decide)) _ _ _ _ _ _ _, fun i b hi hb => ?_, fun i b hi hb => ?_, fun i j hi hn hj => ?_, h.inj⟩
  · by_cases hip : i = p / 8
    · subst hip
      rw [hq] at hb
      cases hb
      have := hpt.slotSet (mod8 p) (some x) rfl
      rw [dm8] at this
      exact this
    · have hne : b ≠ pb := by rintro rfl; exact hip (h.inj _ _ _ hi (div8 p hp) hb hq)
      have := (h.part _ _ hi hb).slotFar hne (p % 8 * 6) (.int .i64 x.f) (.bool x.w) (.bool x.s) (.bool x.c) (.bool x.d) (.bool true)
      unfold partArr at this ⊢
      rw [partList_far m i (some x) (fun e => hip e.symm)]
      exact this
  · by_cases hip : i = p / 8
    · subst hip
      exact ⟨p % 8, mod8 p, by rw [dm8, upd_same]; rfl⟩
    · obtain ⟨j, hj, hs⟩ := h.some_ i b hi hb
      exact ⟨j, hj, by rw [upd_other m (some x) (by omega)]; exact hs⟩
  · have hip : i ≠ p / 8 := by rintro rfl; rw [hq] at hn; cases hn
    rw [upd_other m (some x) (by omega)]
    exact h.none_ i j hi hn hj

theorem set_keep (h : Tab w bt q m) (x : E) (hx : x.ok = true) (p : Nat) (hp : p < 64) (pb : Nat) (hq : q (p / 8) = some pb) : Calls Try.prog 27 #[.pointer (some ⟨bt, 0, none⟩), .int .i64 p, x.val] w
    fun e w' => e = .returned (.int .i64 0) ∧ Tab w' bt q (upd m p (some x)) ∧ But (Own bt q) w w' := by
  have hc : code x = 0 := by unfold code; rw [hx]; rfl
  have HC := Lib.hid (fun W => check_any x W)
  rw [hc] at HC
  have ht0 := h.alloc (.cells x.arr 71)
  have hx0 := Blk.new w 71 x.arr
  have hbut : But (Own bt q) w (w.alloc (.cells x.arr 71)) := (But.refl _ _).alloc _
  have hown : Own bt q pb := .inr ⟨_, div8 p hp, hq⟩
  obtain ⟨f, c1, c2, c3, c4⟩ := x
  simp only [E.val, E.arr] at HC ht0 hx0 hbut ⊢
  clear hx hc
  have hlt := h.top.lt
  have hplt := (h.part _ _ (div8 p hp) hq).lt
  obtain ⟨v0, v1, v2, v3, v4, v5, hv⟩ := slotList_form (m p)
  have HV := Lib.hid hv
  have HQ := Lib.hid hq
  have HB := Lib.hid hbut
  clear hv hbut hq
  go_enter Try.func27, Try.ntmps27
  go_wp2_with (go_at_call 45; refine (HC.out _).mono ?_; rintro e w1 ⟨rfl, hb1⟩; have ht1 := ht0.below hb1 (Nat.le_refl _); have hp1 := ht1.ptr hp; rw [HQ.out] at hp1; simp only [ptrV, Option.map_some] at hp1)
  have s0 := ht1.slot hp HQ.out (k := 0) (by omega)
  have s1 := ht1.slot hp HQ.out (k := 1) (by omega)
  have s2 := ht1.slot hp HQ.out (k := 2) (by omega)
  have s3 := ht1.slot hp HQ.out (k := 3) (by omega)
  have s4 := ht1.slot hp HQ.out (k := 4) (by omega)
  have s5 := ht1.slot hp HQ.out (k := 5) (by omega)
  rw [HV.out] at s0 s1 s2 s3 s4 s5
  simp only [List.getElem?_cons_zero, List.getElem?_cons_succ, Nat.add_zero] at s0 s1 s2 s3 s4 s5
  have hbx := hx0.below hb1 (by simp)
  have b0 := hbx.cell 0
  have b1 := hbx.cell 1
  have b2 := hbx.cell 2
  have b3 := hbx.cell 3
  have b4 := hbx.cell 4
  have hpt := ht1.part _ _ (div8 p hp) HQ.out
  have f0 := hpt.frozen (p % 8 * 6)
  have f1 := hpt.frozen (p % 8 * 6 + 1)
  have f2 := hpt.frozen (p % 8 * 6 + 2)
  have f3 := hpt.frozen (p % 8 * 6 + 3)
  have f4 := hpt.frozen (p % 8 * 6 + 4)
  have f5 := hpt.frozen (p % 8 * 6 + 5)
  simp only [List.getElem?_toArray, List.getElem?_cons_zero, List.getElem?_cons_succ] at b0 b1 b2 b3 b4
  have hbut1 : But (Own bt q) w w1 := HB.out.thenBelow hb1 (by simp)
  have HB1 := Lib.hid hbut1
  clear hpt hbx hx0 h hb1 ht0 HC hbut1
  go_region
  go_wp2
  go_ret
  exact ⟨rfl, (ht1.put hp HQ.out ⟨f, c1, c2, c3, c4⟩).drew, (HB1.out.slotSet (.inl hown) _ _ _ _ _ _ _).drew⟩
theorem set_some (h : Tab w bt q m) (x : E) (hx : x.ok = true) (p : Nat) (hp : p < 64) (pb : Nat) (hq : q (p / 8) = some pb) : Calls Try.prog 27 #[.pointer (some ⟨bt, 0, none⟩), .int .i64 p, x.val] w
    fun e w' => e = .returned (.int .i64 0) ∧ Mut w bt q (upd m p (some x)) w' :=
  (set_keep h x hx p hp pb hq).mono fun e w' ⟨h1, h2, h3⟩ => ⟨h1, q, h2, h3, fun k hk => .inl hk⟩
end

end Go.Proofs.Ytlecfdchmcghlaa
