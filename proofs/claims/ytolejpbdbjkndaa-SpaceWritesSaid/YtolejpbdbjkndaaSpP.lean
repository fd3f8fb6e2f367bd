/-
  The law's pages: all of a space's pages as strings. Condition: the space and the frames lie in blocks of their own; each page's frame is used, and of that page alone within the space.
-/
import Derived.Deep.MidRow
import Derived.Deep.WholeRow
import Derived.ChangeKeysEq
import Derived.Test.YtolejpbdbjkndaaSpO
namespace Go.Proofs.Ytolejpbdbjkndaa
open Go.RowKit Go.Shelf
set_option linter.unusedVariables false
set_option linter.unusedSimpArgs false
attribute [local go_sem] Oper.semAt_some

/-- The library's steps through a held region, the operation written out. -/
theorem wpAnyH_takeD {P : Program} {ops : Array Oper} {Q : Exit → Act → World → Prop} {md : Region.Mode} {S : World → Prop} {i : Nat} {oi : Oper} {rest : List Oper} {v : Value} {fuel : Nat} {listed : Array Bool} {a : Act} {w : World} (hi : ops.toList.drop i = oi :: rest)
    (hs : Region.noSelect ops = true) (hf : Region.free md ops listed i = true) (hr : (Region.ready md ops listed).contains i = true)
    (hQ : ∀ c a w, Q (.panic c) (a.put oi.dst v) w → Q (.panic c) a w) (hy : YieldsIf P ops S oi v a) (hS : S w)
    (h : wpAnyH P md ops Q S fuel (listed.setIfInBounds i true) (a.put oi.dst v) w) : wpAnyH P md ops Q S (fuel + 1) listed a w :=
  wpAnyH_take (getElem?_of_drop hi) hs hf hr hQ hy hS h
theorem AllReadyH.consD {P : Program} {ops : Array Oper} {Q : Exit → Act → World → Prop} {md : Region.Mode} {S : World → Prop} {fuel : Nat} {listed : Array Bool} {a : Act} {w : World} {i : Nat} {o : Oper} {rest : List Oper} {rs : List Nat} (ho : ops.toList.drop i = o :: rest)
    (h : ∀ K' : Act → World → Prop, Shut (∀ a w, S w → (S w → wpAnyH P md ops Q S fuel (listed.setIfInBounds i true) a w) → K' a w) → if Region.wanted o (yielded ops a.tmps) = true then Oper.wp P o a w K' Q else K' (a.put o.dst undef) w)
    (hs : AllReadyH P md ops Q S fuel listed a w rs) : AllReadyH P md ops Q S fuel listed a w (i :: rs) := AllReadyH.cons (getElem?_of_drop ho) h hs
/-- The first k pages as strings. -/
def pgL (F : Fs) (m : M) (k : Nat) : List Value := (List.range 64).map fun p => if p < k then .string (strOfNums (pageP F m p)) else .string ByteArray.empty
theorem pgL_len (F : Fs) (m : M) (k : Nat) : (pgL F m k).length = 64 := by unfold pgL; rw [List.length_map, List.length_range]
theorem pgL_zero (F : Fs) (m : M) : pgL F m 0 = List.replicate 64 (.string ByteArray.empty) := by
  unfold pgL
  rw [show (fun p => if p < 0 then Value.string (strOfNums (pageP F m p)) else .string ByteArray.empty) = fun _ => Value.string ByteArray.empty from funext fun p => if_neg (Nat.not_lt_zero p)]
  rfl
theorem pgL_step (F : Fs) (m : M) {k : Nat} (hk : k < 64) : (pgL F m k).set k (.string (strOfNums (pageP F m k))) = pgL F m (k + 1) := by
  unfold pgL
  rw [range_map_set]
  refine List.map_congr_left fun j _ => ?_
  by_cases h1 : j = k
  · subst h1; rw [if_pos rfl, if_pos (by omega)]
  · rw [if_neg h1]
    by_cases h2 : j < k
    · rw [if_pos h2, if_pos (by omega)]
    · rw [if_neg h2, if_neg (by omega)]
def pgV (F : Fs) (m : M) : Value := .agg (pgL F m 64).toArray
theorem zeroS (w : World) : (zeroValue 41).run Try.prog w = .ok (.agg (List.replicate 64 (Value.string ByteArray.empty)).toArray) w := by kernel_rfl
theorem pgL_str {F : Fs} {m : M} {k i : Nat} (h : i < 64) : ∃ s, (pgL F m k)[i]? = some (.string s) := by
  unfold pgL
  rw [List.getElem?_map, List.getElem?_range h]
  show ∃ s, some (if i < k then Value.string _ else Value.string _) = _
  split
  · exact ⟨_, rfl⟩
  · exact ⟨_, rfl⟩
theorem pgL_one (F : Fs) (m : M) (k : Nat) : ∀ v ∈ pgL F m k, v.oneCell' = true := fun v hv => by
  unfold pgL at hv
  rw [List.mem_map] at hv
  obtain ⟨p, _, rfl⟩ := hv
  split <;> rfl
theorem eqItems_str (d : Nat) (vs : Array Value) (w : World) : ∀ is : List Nat, (∀ i ∈ is, ∃ s, vs[i]? = some (.string s)) → (Op.eqItems (d + 1) 9 1 vs vs is).run Try.prog w = .ok true w
  | [], _ => by simp [Op.eqItems]
  | i :: is, h => by
    obtain ⟨s, hs⟩ := h i (List.mem_cons_self ..)
    have hp := run_part_plain (P := Try.prog) (w := w) (e := 9) (by kernel_rfl) (xs := vs) (off := i) hs
    simp only [Op.eqItems, Sem.run_bind, Nat.mul_one, hp, Result.andThen_ok, run_equalIn_string w d 9 s s Try.underlying9]
    simp [eqItems_str d vs w is (fun j hj => h j (List.mem_cons_of_mem _ hj))]
/-- '==' on all pages of a space and the same. -/
theorem eq_pages (F : Fs) (m : M) (w : World) : (Op.equalIn 10000 41 (pgV F m) (pgV F m)).run Try.prog w = .ok true w := by
  obtain ⟨i, hi⟩ : ∃ i, Try.prog.info? 9 = some i := by
    cases h : Try.prog.info? 9 with
    | none => exact absurd (show (Try.prog.info? 9).isSome = true by kernel_rfl) (by rw [h]; decide)
    | some i => exact ⟨i, rfl⟩
  unfold pgV
  rw [show (10000 : Nat) = 9999 + 1 from rfl, run_equalIn_array (P := Try.prog) (w := w) 9999 (t := 41) (e := 9) (n := 64) _ _ Try.underlying41 hi, show Try.prog.cellsOf 9 = 1 by kernel_rfl]
  refine eqItems_str 9998 _ w _ fun j hj => ?_
  rw [List.getElem?_toArray]
  exact pgL_str (List.mem_range.1 hj)
section
variable {w : World} {fb lb cap : Nat} {F : Fs} {sb bt : Nat} {q : Nat → Option Nat} {m : M}
/-- Cells, some turned. -/
def setAll (cs : Array Value) (o : Nat) : List Value → Array Value
  | [] => cs
  | x :: l => setAll (cs.setIfInBounds o x) (o + 1) l
theorem setAll_whole : ∀ (l a b : List Value), b.length = l.length → setAll (a ++ b).toArray a.length l = (a ++ l).toArray
  | [], a, b, h => by
    have : b = [] := List.eq_nil_of_length_eq_zero h
    subst this; rfl
  | x :: l, a, [], h => by cases h
  | x :: l, a, y :: b, h => by
    rw [setAll, List.setIfInBounds_toArray, List.set_append_right _ _ (Nat.le_refl _), Nat.sub_self, List.set_cons_zero]
    have := setAll_whole l (a ++ [x]) b (by simpa using h)
    rw [List.append_assoc, List.append_assoc, List.length_append] at this
    exact this
theorem Blk.setCells {w : World} {g : Nat} {t : TypeId} : ∀ (l : List Value) (o : Nat) (w : World) (cs : Array Value), Blk w g t cs → Blk (w.setCells g o l) g t (setAll cs o l)
  | [], o, w, cs, h => h
  | x :: l, o, w, cs, h => Blk.setCells (w := w) l (o + 1) _ _ (h.set_ o x)
theorem Blk.setWhole {w : World} {g : Nat} {t : TypeId} {c l : List Value} (h : Blk w g t c.toArray) (hl : c.length = l.length) : Blk (w.setCells g 0 l) g t l.toArray := by
  have h1 := Blk.setCells (w := w) l 0 w _ h
  have h2 := setAll_whole l [] c hl
  rw [List.nil_append, List.nil_append] at h2
  rw [show (0 : Nat) = ([] : List Value).length from rfl, h2] at h1
  exact h1
set_option maxRecDepth 100000 in
set_option maxHeartbeats 2000000 in
theorem pages_any (h : FS w fb lb cap F sb bt q m) (hok : SpOk F m) :
    Calls Try.prog 15 #[.pointer (some ⟨sb, 0, none⟩)] w fun e w' => e = .returned (pgV F m) ∧ Below w.heap.size w w' := by
  have HH := Lib.hid h
  have HOK := Lib.hid hok
  clear h hok
  have hz0 := zeroS w
  have hz1 := zeroS (w.alloc (.cells (List.replicate 64 (Value.string ByteArray.empty)).toArray 41))
  have HST := Lib.hid (show Below w.heap.size w ((w.alloc (.cells (List.replicate 64 (Value.string ByteArray.empty)).toArray 41)).alloc (.cells (List.replicate 64 (Value.string ByteArray.empty)).toArray 41)) ∧
      Blk ((w.alloc (.cells (List.replicate 64 (Value.string ByteArray.empty)).toArray 41)).alloc (.cells (List.replicate 64 (Value.string ByteArray.empty)).toArray 41)) w.heap.size 41 (pgL F m 0).toArray ∧
      Blk ((w.alloc (.cells (List.replicate 64 (Value.string ByteArray.empty)).toArray 41)).alloc (.cells (List.replicate 64 (Value.string ByteArray.empty)).toArray 41)) (w.heap.size + 1) 41 (pgL F m 0).toArray from by
    have h1 := (Blk.new w 41 (List.replicate 64 (Value.string ByteArray.empty)).toArray).alloc (.cells (List.replicate 64 (Value.string ByteArray.empty)).toArray 41)
    have h2 := Blk.new (w.alloc (.cells (List.replicate 64 (Value.string ByteArray.empty)).toArray 41)) 41 (List.replicate 64 (Value.string ByteArray.empty)).toArray
    rw [World.size_alloc] at h2
    rw [← pgL_zero F m] at h1 h2 ⊢
    exact ⟨bl_new (bl_new (Below.refl w.heap.size w) _) _, h1, h2⟩)
  generalize List.replicate 64 (Value.string ByteArray.empty) = zs at *
  go_enter Try.func15, Try.ntmps15
  go_wp2_with (fail)
  go_loopw [4] (fun i wr => ∃ k : Nat, i = .int .i64 (k : Int) ∧ k ≤ 64 ∧ Hid (Below w.heap.size w wr ∧ Blk wr w.heap.size 41 (pgL F m 0).toArray ∧ Blk wr (w.heap.size + 1) 41 (pgL F m k).toArray)) (fun i _ => 64 - (intOf i).toNat)
  case atStart => exact ⟨0, rfl, Nat.zero_le _, HST⟩
  case round =>
    obtain ⟨k, rfl, hk, HR⟩ := hrel
    clear hz0 hz1 HST
    by_cases hk64 : k < 64
    · have hki : (k : Int) < 64 := by omega
      have HC := Lib.hid (spPage_any (HH.out.below HR.out.1) HOK.out k hk64)
      go_wp2_with (fail)
      refine HC.out.mono ?_
      rintro e W1 ⟨v, rfl, hrow, hb1⟩
      have hcv := conv_row hrow
      have HB1 := Lib.hid (bl_step HR.out.1 hb1)
      have HR1 := Lib.hid (HR.out.2.1.below hb1 HR.out.2.1.lt)
      have hr2 := HR.out.2.2.below hb1 HR.out.2.2.lt
      have HR2 := Lib.hid hr2
      obtain ⟨old, hold⟩ := pgL_str (F := F) (m := m) (k := k) hk64
      have c0 : W1.cell? ⟨w.heap.size + 1, k, none⟩ = some (.string old) := by rw [hr2.cell, List.getElem?_toArray]; exact hold
      have g0 := hr2.frozen k
      have hlt := hr2.lt
      have HSP := Lib.hid (pgL_step F m hk64)
      clear hrow hb1 hr2 hold HC
      generalize strOfNums (pageP F m k) = s at *
      go_wp2
      go_roundw
      case rel =>
        refine ⟨k + 1, by go_num, by omega, Lib.hid ⟨HB1.out.setCell (by show w.heap.size ≤ w.heap.size + 1; omega) _, HR1.out.far (by show w.heap.size ≠ w.heap.size + 1; omega) _, ?_⟩⟩
        have h1 := HR2.out.set_ k (.string s)
        rw [List.setIfInBounds_toArray, HSP.out] at h1
        exact h1
      case measure => simp [intOf]; omega
    · have hki : ¬ (k : Int) < 64 := by omega
      have hkk : k = 64 := by omega
      subst hkk
      have hlen := pgL_len F m 64
      have hlen0 := pgL_len F m 0
      have HD := Lib.hid (show wr.rangeAt (w.heap.size + 1) 0 (pgL F m 64) from fun j v hv => by rw [Nat.zero_add, HR.out.2.2.cell, List.getElem?_toArray]; exact hv)
      have HS := Lib.hid (show (Try.prog.info? 41).map (·.size) = some (pgL F m 64).length from by rw [hlen]; kernel_rfl)
      have hst := run_storeCells_cells (P := Try.prog) w.heap.size 0 (pgL F m 64) 0 wr (fun j hj => by
        obtain ⟨s, hs⟩ := pgL_str (F := F) (m := m) (k := 0) (i := j) (by omega)
        rw [show (⟨w.heap.size, 0 + j, none⟩ : Addr) = ⟨w.heap.size, j, none⟩ by rw [Nat.zero_add], HR.out.2.1.cell, List.getElem?_toArray, hs]; rfl) (fun j hj => HR.out.2.1.frozen _) (pgL_one F m 64)
      simp only [Nat.add_zero] at hst
      have HFIN := Lib.hid (show Below w.heap.size w (wr.setCells w.heap.size 0 (pgL F m 64)) ∧ Blk (wr.setCells w.heap.size 0 (pgL F m 64)) w.heap.size 41 (pgL F m 64).toArray from
        ⟨(but_cells (S := fun k => k = w.heap.size) rfl (pgL F m 64) 0 w wr (But.of_below HR.out.1)).below (fun k hk => by have hk : k = w.heap.size := hk; omega) (Nat.le_refl _), HR.out.2.1.setWhole (by rw [hlen, hlen0])⟩)
      have HL := Lib.hid hlen
      clear hlen hlen0
      go_wp2_with (refine wpList_load_mid rfl _ _ rfl (w.heap.size + 1) 0 rfl (pgL F m 64) _ HD.out Try.underlying41 rfl HS.out ?_)
      exact bodyPost_ret (results_cell Try.results15 _ rfl HFIN.out.2 Try.underlying41 rfl (by rw [List.size_toArray, HL.out]; kernel_rfl)) rfl ⟨rfl, HFIN.out.1⟩
end
end Go.Proofs.Ytolejpbdbjkndaa
