/-
  Walks over package pages: Clear.
-/
import Derived.Test.YtolejpbdbjkndaaPages4
namespace Go.Proofs.Ytolejpbdbjkndaa
open Go.RowKit
set_option linter.unusedVariables false

/-- An entry's cells are written. -/
def World.entrySet (w : World) (b : Nat) (u0 u1 u2 u3 u4 : Value) : World :=
  ((((w.setCell ⟨b, 0, none⟩ u0).setCell ⟨b, 1, none⟩ u1).setCell ⟨b, 2, none⟩ u2).setCell ⟨b, 3, none⟩ u3).setCell ⟨b, 4, none⟩ u4
theorem Blk.entrySet {w : World} {b : Nat} {t : TypeId} {x : E} (h : Blk w b t x.arr) (u0 u1 u2 u3 u4 : Value) : Blk (World.entrySet w b u0 u1 u2 u3 u4) b t #[u0, u1, u2, u3, u4] := by
  have := ((((h.set_ 0 u0).set_ 1 u1).set_ 2 u2).set_ 3 u3).set_ 4 u4
  simp only [E.arr] at this
  simpa [World.entrySet] using this
theorem Blk.entryFar {w : World} {b g : Nat} {t : TypeId} {cs : Array Value} (h : Blk w g t cs) (hne : g ≠ b) (u0 u1 u2 u3 u4 : Value) : Blk (World.entrySet w b u0 u1 u2 u3 u4) g t cs :=
  ((((h.far (p := ⟨b, _, none⟩) hne _).far (p := ⟨b, _, none⟩) hne _).far (p := ⟨b, _, none⟩) hne _).far (p := ⟨b, _, none⟩) hne _).far (p := ⟨b, _, none⟩) hne _
theorem But.entrySet {S : Nat → Prop} {a w : World} (h : But S a w) {b : Nat} (hb : S b ∨ a.heap.size ≤ b) (u0 u1 u2 u3 u4 : Value) : But S a (World.entrySet w b u0 u1 u2 u3 u4) :=
  ((((h.setCell (p := ⟨b, _, none⟩) hb _).setCell (p := ⟨b, _, none⟩) hb _).setCell (p := ⟨b, _, none⟩) hb _).setCell (p := ⟨b, _, none⟩) hb _).setCell (p := ⟨b, _, none⟩) hb _

theorem partArr_size (m : M) (i : Nat) : (partArr m i).size = 48 := by simp [partArr, partList, slotList_len]
theorem info_part (m : M) (i : Nat) : (Try.prog.info? 105).map (·.size) = some (partArr m i).size := by rw [partArr_size]; kernel_rfl
/-- Has a part no entry? -/
def emp (m : M) (i : Nat) : Bool := (m (8*i)).isNone && (m (8*i+1)).isNone && (m (8*i+2)).isNone && (m (8*i+3)).isNone && (m (8*i+4)).isNone && (m (8*i+5)).isNone && (m (8*i+6)).isNone && (m (8*i+7)).isNone
theorem emp_none {m : M} {i : Nat} (h : emp m i = true) {j : Nat} (hj : j < 8) : m (8 * i + j) = none := by
  simp only [emp, Bool.and_eq_true, Option.isNone_iff_eq_none] at h
  rcases eight hj with rfl | rfl | rfl | rfl | rfl | rfl | rfl | rfl
  · exact h.1.1.1.1.1.1.1
  · exact h.1.1.1.1.1.1.2
  · exact h.1.1.1.1.1.2
  · exact h.1.1.1.1.2
  · exact h.1.1.1.2
  · exact h.1.1.2
  · exact h.1.2
  · exact h.2
theorem emp_some {m : M} {i : Nat} (h : emp m i = false) : ∃ j, j < 8 ∧ (m (8 * i + j)).isSome = true := by
  simp only [emp, Bool.and_eq_false_iff] at h
  rcases h with ((((((h | h) | h) | h) | h) | h) | h) | h
  · exact ⟨0, by omega, by cases hm : m (8*i) <;> simp_all⟩
  · exact ⟨1, by omega, by cases hm : m (8*i+1) <;> simp_all⟩
  · exact ⟨2, by omega, by cases hm : m (8*i+2) <;> simp_all⟩
  · exact ⟨3, by omega, by cases hm : m (8*i+3) <;> simp_all⟩
  · exact ⟨4, by omega, by cases hm : m (8*i+4) <;> simp_all⟩
  · exact ⟨5, by omega, by cases hm : m (8*i+5) <;> simp_all⟩
  · exact ⟨6, by omega, by cases hm : m (8*i+6) <;> simp_all⟩
  · exact ⟨7, by omega, by cases hm : m (8*i+7) <;> simp_all⟩

section
variable {w : World} {bt : Nat} {q : Nat → Option Nat} {m : M}
/-- A slot is emptied, and others of its part are taken. -/
theorem Tab.take {w2 : World} (h : Tab w bt q m) {p : Nat} (hp : p < 64) {pb : Nat} (hq : q (p / 8) = some pb) (he : emp (upd m p none) (p / 8) = false)
    (ht : Blk w2 bt 74 (tabArr q)) (hpp : Blk w2 pb 105 (partArr (upd m p none) (p / 8)))
    (ho : ∀ g cs, g ≠ pb → Blk w g 105 cs → Blk w2 g 105 cs) : Tab w2 bt q (upd m p none) := by
  refine ⟨ht, fun i b hi hb => ?_, fun i b hi hb => ?_, fun i j hi hn hj => ?_, h.inj⟩
  · by_cases hip : i = p / 8
    · subst hip
      rw [hq] at hb; cases hb
      exact hpp
    · have hne : b ≠ pb := by rintro rfl; exact hip (h.inj _ _ _ hi (div8 p hp) hb hq)
      have := ho b _ hne (h.part _ _ hi hb)
      unfold partArr at this ⊢
      rw [partList_far m i none (fun e => hip e.symm)]
      exact this
  · by_cases hip : i = p / 8
    · subst hip
      exact emp_some he
    · obtain ⟨j, hj, hs⟩ := h.some_ i b hi hb
      exact ⟨j, hj, by rw [upd_other m none (by omega)]; exact hs⟩
  · have hip : i ≠ p / 8 := by rintro rfl; rw [hq] at hn; cases hn
    rw [upd_other m none (by omega)]
    exact h.none_ i j hi hn hj

/-- The last slot of a part is emptied, and the part is taken away. -/
theorem Tab.drop {w2 : World} (h : Tab w bt q m) {p : Nat} (hp : p < 64) {pb : Nat} (hq : q (p / 8) = some pb) (he : emp (upd m p none) (p / 8) = true)
    (ht : Blk w2 bt 74 (tabArr (qset q (p / 8) none)))
    (ho : ∀ g cs, g ≠ pb → Blk w g 105 cs → Blk w2 g 105 cs) : Tab w2 bt (qset q (p / 8) none) (upd m p none) := by
  refine ⟨ht, fun i b hi hb => ?_, fun i b hi hb => ?_, fun i j hi hn hj => ?_, fun i j b hi hj hb hb' => ?_⟩
  · have hip : i ≠ p / 8 := by rintro rfl; simp [qset] at hb
    simp only [qset, if_neg hip] at hb
    have hne : b ≠ pb := by rintro rfl; exact hip (h.inj _ _ _ hi (div8 p hp) hb hq)
    have := ho b _ hne (h.part _ _ hi hb)
    unfold partArr at this ⊢
    rw [partList_far m i none (fun e => hip e.symm)]
    exact this
  · have hip : i ≠ p / 8 := by rintro rfl; simp [qset] at hb
    simp only [qset, if_neg hip] at hb
    obtain ⟨j, hj, hs⟩ := h.some_ i b hi hb
    exact ⟨j, hj, by rw [upd_other m none (by omega)]; exact hs⟩
  · by_cases hip : i = p / 8
    · subst hip
      exact emp_none he hj
    · simp only [qset, if_neg hip] at hn
      rw [upd_other m none (by omega)]
      exact h.none_ i j hi hn hj
  · have hip : i ≠ p / 8 := by rintro rfl; simp [qset] at hb
    have hjp : j ≠ p / 8 := by rintro rfl; simp [qset] at hb'
    simp only [qset, if_neg hip, if_neg hjp] at hb hb'
    exact h.inj _ _ _ hi hj hb hb'
end

section
variable {w : World} {bt : Nat} {q : Nat → Option Nat} {m : M}

theorem clear_none (h : Tab w bt q m) (p : Int) (hm : look m p = none) : Calls Try.prog 40 #[.pointer (some ⟨bt, 0, none⟩), .int .i64 p] w
    fun e w' => e = .returned (gotV none) ∧ Below w.heap.size w w' := by
  have HC := Lib.hid (fun W (hW : Tab W bt q m) => get_any hW p)
  rw [hm] at HC
  have ht0 := h.alloc (.cells E.zero.arr 35)
  have hx0 := Blk.new w 35 E.zero.arr
  simp only [E.val, E.arr, E.zero, gotV, Option.getD_none, Option.isSome_none] at HC ht0 hx0 ⊢
  clear hm h
  go_enter Try.func40, Try.ntmps40
  go_wp2_with (go_at_call 34; refine (HC.out _ ht0).mono ?_; rintro e w1 ⟨rfl, hb1⟩; have hr := hx0.below hb1 (by simp); have r0 := hr.cell 0; have r1 := hr.cell 1; have r2 := hr.cell 2; have r3 := hr.cell 3; have r4 := hr.cell 4; simp only [List.getElem?_toArray, List.getElem?_cons_zero, List.getElem?_cons_succ] at r0 r1 r2 r3 r4; have g0 := hr.frozen 0; have g1 := hr.frozen 1; have g2 := hr.frozen 2; have g3 := hr.frozen 3; have g4 := hr.frozen 4; have hrl := hr.lt; clear hr)
  have hfin := ((hx0.below hb1 (by simp)).entrySet (x := E.zero) (.int .i64 0) (.bool false) (.bool false) (.bool false) (.bool false)).alloc (.cells E.zero.arr 35)
  have hbf := ((((But.refl (fun _ => False) w).alloc (.cells E.zero.arr 35)).thenBelow hb1 (by simp)).entrySet (b := w.heap.size) (.inr (Nat.le_refl _)) (.int .i64 0) (.bool false) (.bool false) (.bool false) (.bool false)).alloc (.cells E.zero.arr 35)
  exact bodyPost_ret (results_row_tmp Try.results40 _ rfl hfin Try.underlying35 rfl (by kernel_rfl)) rfl ⟨rfl, hbf.below (fun _ h => h.elim) (Nat.le_refl _)⟩

set_option maxRecDepth 100000 in
set_option maxHeartbeats 400000 in
theorem clear_some (h : Tab w bt q m) (p : Nat) (hp : p < 64) (pb : Nat) (hq : q (p / 8) = some pb) (x : E) (hm : m p = some x) : Calls Try.prog 40 #[.pointer (some ⟨bt, 0, none⟩), .int .i64 p] w
    fun e w' => e = .returned (gotV (some x)) ∧ Mut w bt q (upd m p none) w' := by
  have hl : look m p = some x := by unfold look; rw [if_pos (by omega), Int.toNat_natCast]; exact hm
  have HC := Lib.hid (fun W (hW : Tab W bt q m) => get_any hW (p : Int))
  rw [hl] at HC
  have ht0 := h.alloc (.cells E.zero.arr 35)
  have hx0 := Blk.new w 35 E.zero.arr
  obtain ⟨f, c1, c2, c3, c4⟩ := x
  simp only [E.val, E.arr, E.zero, gotV, Option.getD_some, Option.isSome_some] at HC ht0 hx0 ⊢
  have HM := Lib.hid hm
  have HQ := Lib.hid hq
  clear hq hl h
  go_enter Try.func40, Try.ntmps40
  go_upto_region 6 with (go_at_call 34; refine (HC.out _ ht0).mono ?_; rintro e w1 ⟨rfl, hb1⟩; have ht1 := ht0.below hb1 (Nat.le_refl _); have hp1 := ht1.ptr hp; rw [HQ.out] at hp1; simp only [ptrV, Option.map_some] at hp1; have k1 := ht1.top.frozen (p / 8); have hlt1 := ht1.top.lt; have hpt := ht1.part _ _ (div8 p hp) HQ.out; have hplt := hpt.lt; have s0 := ht1.slot hp HQ.out (k := 0) (by omega); have s1 := ht1.slot hp HQ.out (k := 1) (by omega); have s2 := ht1.slot hp HQ.out (k := 2) (by omega); have s3 := ht1.slot hp HQ.out (k := 3) (by omega); have s4 := ht1.slot hp HQ.out (k := 4) (by omega); have s5 := ht1.slot hp HQ.out (k := 5) (by omega); have f0 := hpt.frozen (p % 8 * 6); have f1 := hpt.frozen (p % 8 * 6 + 1); have f2 := hpt.frozen (p % 8 * 6 + 2); have f3 := hpt.frozen (p % 8 * 6 + 3); have f4 := hpt.frozen (p % 8 * 6 + 4); have f5 := hpt.frozen (p % 8 * 6 + 5); simp only [hm, slotList, List.getElem?_cons_zero, List.getElem?_cons_succ, Nat.add_zero] at s0 s1 s2 s3 s4 s5; clear hpt hm; have hr := hx0.below hb1 (by simp); have r0 := hr.cell 0; have r1 := hr.cell 1; have r2 := hr.cell 2; have r3 := hr.cell 3; have r4 := hr.cell 4; simp only [List.getElem?_toArray, List.getElem?_cons_zero, List.getElem?_cons_succ] at r0 r1 r2 r3 r4; have g0 := hr.frozen 0; have g1 := hr.frozen 1; have g2 := hr.frozen 2; have g3 := hr.frozen 3; have g4 := hr.frozen 4; have hrl := hr.lt; clear hr)
  obtain ⟨W2, hW2⟩ : ∃ W2, W2 = (World.slotSet w1 pb (p % 8 * 6) (.int .i64 0) (.bool false) (.bool false) (.bool false) (.bool false) (.bool false)).alloc (.cells #[.int .i64 f, .bool c1, .bool c2, .bool c3, .bool c4] 35) := ⟨_, rfl⟩
  have hW3 := hW2
  unfold World.slotSet at hW3
  rw [← hW3]
  have hP2 : Blk W2 pb 105 (partArr (upd m p none) (p / 8)) := by
    have := (ht1.part _ _ (div8 p hp) HQ.out).slotSet (mod8 p) none rfl
    rw [dm8] at this
    rw [hW2]; exact this.alloc _
  have hT2 : Blk W2 bt 74 (tabArr q) := by
    rw [hW2]; exact (ht1.top.slotFar (ht1.top.ne_ (ht1.part _ _ (div8 p hp) HQ.out) (by decide)) _ _ _ _ _ _ _).alloc _
  have hr1 := hx0.below hb1 (by simp)
  have hR2 : Blk W2 w.heap.size 35 E.zero.arr := by
    rw [hW2]; exact (hr1.slotFar (hr1.ne_ (ht1.part _ _ (div8 p hp) HQ.out) (by decide)) _ _ _ _ _ _ _).alloc _
  have hsz : (World.slotSet w1 pb (p % 8 * 6) (.int .i64 0) (.bool false) (.bool false) (.bool false) (.bool false) (.bool false)).heap.size = w1.heap.size := by simp [World.slotSet, World.setCell]
  have hX2 : Blk W2 w1.heap.size 35 #[.int .i64 f, .bool c1, .bool c2, .bool c3, .bool c4] := by
    have := Blk.new (World.slotSet w1 pb (p % 8 * 6) (.int .i64 0) (.bool false) (.bool false) (.bool false) (.bool false) (.bool false)) 35 #[.int .i64 f, .bool c1, .bool c2, .bool c3, .bool c4]
    rw [hsz] at this
    rw [hW2]; exact this
  have hO2 : ∀ g cs, g ≠ pb → Blk w1 g 105 cs → Blk W2 g 105 cs := by
    intro g cs hg hb; rw [hW2]; exact (hb.slotFar hg _ _ _ _ _ _ _).alloc _
  have hB2 : But (Own bt q) w W2 := by
    rw [hW2]; exact ((((But.refl (Own bt q) w).alloc (.cells E.zero.arr 35)).thenBelow hb1 (by simp)).slotSet (.inl (.inr ⟨_, div8 p hp, HQ.out⟩)) _ _ _ _ _ _ _).alloc _
  have hlt2 := hT2.lt
  have hrl2 := hR2.lt
  have hp2 : W2.cell? ⟨bt, p / 8, none⟩ = some (.pointer (some ⟨pb, 0, none⟩)) := by rw [hT2.cell, tabArr_at q (div8 p hp), HQ.out]; rfl
  have k2 := hT2.frozen (p / 8)
  have r0 := hR2.cell 0
  have r1 := hR2.cell 1
  have r2 := hR2.cell 2
  have r3 := hR2.cell 3
  have r4 := hR2.cell 4
  have x0 := hX2.cell 0
  have x1 := hX2.cell 1
  have x2 := hX2.cell 2
  have x3 := hX2.cell 3
  have x4 := hX2.cell 4
  simp only [E.arr, E.zero, List.getElem?_toArray, List.getElem?_cons_zero, List.getElem?_cons_succ] at r0 r1 r2 r3 r4 x0 x1 x2 x3 x4
  have g0 := hR2.frozen 0
  have g1 := hR2.frozen 1
  have g2 := hR2.frozen 2
  have g3 := hR2.frozen 3
  have g4 := hR2.frozen 4
  have heq := fun W => eqPart (upd m p none) (p / 8) W
  have eg := Try.eqGuardType105
  have hne1 : bt ≠ w.heap.size := hT2.ne_ hR2 (by decide)
  have hne2 : bt ≠ w1.heap.size := hT2.ne_ hX2 (by decide)
  have HB2 := Lib.hid hB2
  have HT1 := Lib.hid ht1
  have HT2 := Lib.hid hT2
  have HP2 := Lib.hid hP2
  have HR2 := Lib.hid hR2
  have HO2 := Lib.hid hO2
  clear hB2 hP2 hT2 hR2 hX2 hO2 hsz hW2 hW3 ht1 hp1 hr1 hb1 hx0 ht0 HC
  have hem : ∀ W, (Op.equalIn 10000 105 (.agg (partArr (upd m p none) (p / 8))) (.agg (partArr (fun _ => none) 0))).run Try.prog W = .ok (emp (upd m p none) (p / 8)) W := heq
  clear heq
  cases he : emp (upd m p none) (p / 8) with
  | true =>
    rw [he] at hem
    simp only [show partArr (fun _ => none) 0 = (#[.int .i64 0, .bool false, .bool false, .bool false, .bool false, .bool false, .int .i64 0, .bool false, .bool false, .bool false, .bool false, .bool false, .int .i64 0, .bool false, .bool false, .bool false, .bool false, .bool false, .int .i64 0, .bool false, .bool false, .bool false, .bool false, .bool false, .int .i64 0, .bool false, .bool false, .bool false, .bool false, .bool false, .int .i64 0, .bool false, .bool false, .bool false, .bool false, .bool false, .int .i64 0, .bool false, .bool false, .bool false, .bool false, .bool false, .int .i64 0, .bool false, .bool false, .bool false, .bool false, .bool false] : Array Value) from rfl] at hem
    have HE := Lib.hid he
    clear he
    go_wp2_with (refine wpList_load_row rfl _ _ rfl pb rfl 105 _ _ _ HP2.out Try.underlying105 rfl (info_part _ _) ?_)
    have hfin := ((HR2.out.far (p := ⟨bt, p / 8, none⟩) (fun e => hne1 e.symm) (.pointer none))).entrySet (x := E.zero) (.int .i64 f) (.bool c1) (.bool c2) (.bool c3) (.bool c4)
    have hbf := ((HB2.out.setCell (p := ⟨bt, p / 8, none⟩) (.inl (.inl rfl)) (.pointer none))).entrySet (b := w.heap.size) (.inr (Nat.le_refl _)) (.int .i64 f) (.bool c1) (.bool c2) (.bool c3) (.bool c4)
    have htop : Blk (W2.setCell ⟨bt, p / 8, none⟩ (.pointer none)) bt 74 (tabArr (qset q (p / 8) none)) := by
      rw [← tabArr_set q (div8 p hp)]; exact HT2.out.set_ _ _
    have htab := HT1.out.drop hp HQ.out HE.out (htop.entryFar hne1 (.int .i64 f) (.bool c1) (.bool c2) (.bool c3) (.bool c4))
      (fun g cs hg hb => ((HO2.out g cs hg hb).far (p := ⟨bt, p / 8, none⟩) ((HO2.out g cs hg hb).ne_ HT2.out (by decide)) _).entryFar ((HO2.out g cs hg hb).ne_ HR2.out (by decide)) _ _ _ _ _)
    refine bodyPost_ret (results_row_tmp Try.results40 _ rfl hfin Try.underlying35 rfl (by kernel_rfl)) rfl ⟨rfl, _, htab, hbf, fun k hk => ?_⟩
    rcases hk with rfl | ⟨i, hi, hk⟩
    · exact .inl (.inl rfl)
    · unfold qset at hk
      split at hk
      · cases hk
      · exact .inl (.inr ⟨i, hi, hk⟩)
  | false =>
    rw [he] at hem
    simp only [show partArr (fun _ => none) 0 = (#[.int .i64 0, .bool false, .bool false, .bool false, .bool false, .bool false, .int .i64 0, .bool false, .bool false, .bool false, .bool false, .bool false, .int .i64 0, .bool false, .bool false, .bool false, .bool false, .bool false, .int .i64 0, .bool false, .bool false, .bool false, .bool false, .bool false, .int .i64 0, .bool false, .bool false, .bool false, .bool false, .bool false, .int .i64 0, .bool false, .bool false, .bool false, .bool false, .bool false, .int .i64 0, .bool false, .bool false, .bool false, .bool false, .bool false, .int .i64 0, .bool false, .bool false, .bool false, .bool false, .bool false] : Array Value) from rfl] at hem
    have HE := Lib.hid he
    clear he
    go_wp2_with (refine wpList_load_row rfl _ _ rfl pb rfl 105 _ _ _ HP2.out Try.underlying105 rfl (info_part _ _) ?_)
    have hfin := HR2.out.entrySet (x := E.zero) (.int .i64 f) (.bool c1) (.bool c2) (.bool c3) (.bool c4)
    have hbf := HB2.out.entrySet (b := w.heap.size) (.inr (Nat.le_refl _)) (.int .i64 f) (.bool c1) (.bool c2) (.bool c3) (.bool c4)
    have htab := HT1.out.take hp HQ.out HE.out (HT2.out.entryFar hne1 (.int .i64 f) (.bool c1) (.bool c2) (.bool c3) (.bool c4))
      (HP2.out.entryFar (HP2.out.ne_ HR2.out (by decide)) _ _ _ _ _) (fun g cs hg hb => (HO2.out g cs hg hb).entryFar ((HO2.out g cs hg hb).ne_ HR2.out (by decide)) _ _ _ _ _)
    exact bodyPost_ret (results_row_tmp Try.results40 _ rfl hfin Try.underlying35 rfl (by kernel_rfl)) rfl ⟨rfl, _, htab, hbf, fun k hk => .inl hk⟩

/-- Clear, whatever page. -/
def clearM (m : M) (p : Int) : M := if 0 ≤ p ∧ p < 64 then upd m p.toNat none else m
theorem clear_any (h : Tab w bt q m) (p : Int) : Calls Try.prog 40 #[.pointer (some ⟨bt, 0, none⟩), .int .i64 p] w
    fun e w' => e = .returned (gotV (look m p)) ∧ Mut w bt q (clearM m p) w' := by
  by_cases hp : 0 ≤ p ∧ p < 64
  · obtain ⟨n, rfl⟩ := Int.eq_ofNat_of_zero_le hp.1
    have hn : n < 64 := by omega
    have hl : look m n = m n := by unfold look; rw [if_pos hp, Int.toNat_natCast]
    unfold clearM
    rw [if_pos hp, Int.toNat_natCast, hl]
    cases hm : m n with
    | none =>
      have hu : upd m n none = m := by funext k; unfold upd; split <;> simp_all
      rw [hu]
      exact (clear_none h n (by rw [hl, hm])).mono fun e w' ⟨he, hb⟩ => ⟨he, h.mut_below hb⟩
    | some x =>
      cases hq : q (n / 8) with
      | none =>
        have := h.none_ _ _ (div8 n hn) hq (mod8 n)
        rw [dm8, hm] at this
        cases this
      | some pb => exact clear_some h n hn pb hq x hm
  · have hl : look m p = none := by unfold look; rw [if_neg hp]
    unfold clearM
    rw [if_neg hp, hl]
    exact (clear_none h p hl).mono fun e w' ⟨he, hb⟩ => ⟨he, h.mut_below hb⟩
theorem clear_nil (p : Int) : Calls Try.prog 40 #[.pointer none, .int .i64 p] w
    fun e w' => e = .returned (gotV none) ∧ Below w.heap.size w w' := by
  have HC := Lib.hid (fun W => get_nil (w := W) p)
  have hx0 := Blk.new w 35 E.zero.arr
  simp only [E.val, E.arr, E.zero, gotV, Option.getD_none, Option.isSome_none] at HC hx0 ⊢
  go_enter Try.func40, Try.ntmps40
  go_wp2_with (go_at_call 34; refine (HC.out _).mono ?_; rintro e w1 ⟨rfl, hb1⟩; have hr := hx0.below hb1 (by simp); have r0 := hr.cell 0; have r1 := hr.cell 1; have r2 := hr.cell 2; have r3 := hr.cell 3; have r4 := hr.cell 4; simp only [List.getElem?_toArray, List.getElem?_cons_zero, List.getElem?_cons_succ] at r0 r1 r2 r3 r4; have g0 := hr.frozen 0; have g1 := hr.frozen 1; have g2 := hr.frozen 2; have g3 := hr.frozen 3; have g4 := hr.frozen 4; have hrl := hr.lt; clear hr)
  have hfin := ((hx0.below hb1 (by simp)).entrySet (x := E.zero) (.int .i64 0) (.bool false) (.bool false) (.bool false) (.bool false)).alloc (.cells E.zero.arr 35)
  have hbf := ((((But.refl (fun _ => False) w).alloc (.cells E.zero.arr 35)).thenBelow hb1 (by simp)).entrySet (b := w.heap.size) (.inr (Nat.le_refl _)) (.int .i64 0) (.bool false) (.bool false) (.bool false) (.bool false)).alloc (.cells E.zero.arr 35)
  exact bodyPost_ret (results_row_tmp Try.results40 _ rfl hfin Try.underlying35 rfl (by kernel_rfl)) rfl ⟨rfl, hbf.below (fun _ h => h.elim) (Nat.le_refl _)⟩
end
end Go.Proofs.Ytolejpbdbjkndaa
