/-
  strings.LastIndexAny for two signs: within the text, and the last sign's place where the text is ASCII. Condition: the tables of UTF-8 lie as the library's text lays them.
-/
import Derived.Deep.WholeRow
import Derived.Lib.AsciiSet
import Derived.Lib.SpaceU
import Derived.Shelf.Unicode.DecodeLast
import Derived.Test.YtodphfgopngpeaaDoorGp1
namespace Go.Proofs.YtodphfgopngpeaaDoor
open Go.RowKit Go.Shelf
set_option linter.unusedVariables false
set_option linter.unusedSimpArgs false

/-- The tables of UTF-8. -/
def U8 (w : World) : Prop := Lib.Utf8Tabs 5 6 w
theorem U8.below {w w' : World} (h : U8 w) (hb : Below w.heap.size w w') : U8 w' := Go.Proofs.Utf8Tabs_below h hb
def Asc (l : List UInt8) : Prop := ∀ b ∈ l, b.toNat < 128
/-- No sign from a place on. -/
def NoFrom (l : List UInt8) (k : Nat) : Prop := ∀ (j : Nat) (b : UInt8), k ≤ j → l[j]? = some b → ¬ PM b
theorem NoFrom.none {l : List UInt8} : NoFrom l l.length := fun j b hj hb => by
  rw [List.getElem?_eq_none hj] at hb
  cases hb
theorem NoFrom.succ {l : List UInt8} {k : Nat} (h : NoFrom l (k + 1)) {x : UInt8} (hx : l[k]? = some x) (hn : ¬ PM x) : NoFrom l k := fun j b hj hb => by
  rcases Nat.lt_or_eq_of_le hj with hlt | rfl
  · exact h j b hlt hb
  · rw [hx] at hb
    cases hb
    exact hn
theorem last_none {l : List UInt8} (h : NoFrom l 0) : LastP l (-1) := Or.inl ⟨rfl, fun j b hb => h j b (Nat.zero_le _) hb⟩
theorem last_some {l : List UInt8} {k : Nat} (h : NoFrom l (k + 1)) {x : UInt8} (hx : l[k]? = some x) (hp : PM x) : LastP l (k : Int) := Or.inr ⟨k, rfl, ⟨x, hx, hp⟩, fun j b hj hb => h j b hj hb⟩
theorem pm_nat (x : UInt8) : PM x ↔ x.toNat = 43 ∨ x.toNat = 45 := by
  unfold PM
  rw [← UInt8.toNat_inj, ← UInt8.toNat_inj]
  exact Iff.rfl
/-- What strings.LastIndexAny tells. -/
def LastAns (s : ByteArray) (w : World) (e : Ending) (w' : World) : Prop := ∃ i : Int, e = .returned (.int .i64 i) ∧ -1 ≤ i ∧ i < s.size ∧ (Asc s.data.toList → LastP s.data.toList i) ∧ Below w.heap.size w w'

theorem zero_set (W : World) : (zeroValue 70).run Tryd.prog W = .ok (.agg (Array.replicate 256 (.bool false))) W := by
  have h : (Tryd.prog.info? 70).map (fun i => (i.zero, i.size)) = some (some (.agg (Array.replicate 256 (.bool false))), 256) := by kernel_rfl
  exact (zero_of_info h).1 W
theorem zero_cells : Tryd.zeroCells70 = Array.replicate 256 (.bool false) := by kernel_rfl
theorem info_set : (Tryd.prog.info? 70).map (·.size) = some 256 := by kernel_rfl
theorem one_some {x : UInt8} (h : PM x) : LastP [x] 0 := Or.inr ⟨0, rfl, ⟨x, rfl, h⟩, fun j b hj hb => by
  obtain ⟨k, rfl⟩ : ∃ k, j = k + 1 := ⟨j - 1, by omega⟩
  cases hb⟩
theorem one_none {x : UInt8} (h : ¬ PM x) : LastP [x] (-1) := Or.inl ⟨rfl, fun j b hb => by
  cases j with
  | zero => cases hb; exact h
  | succ k => cases hb⟩
theorem ans_one {s : ByteArray} {x : UInt8} (hs : s.size = 1) (hx : s.data.toList = [x]) {w w' : World} {i : Int} (h : i = 0 ∨ i = -1) (ha : x.toNat < 128 → LastP [x] i) (hb : Below w.heap.size w w') : LastAns s w (.returned (.int .i64 i)) w' :=
  ⟨i, rfl, by rcases h with rfl | rfl <;> decide, by rw [hs]; rcases h with rfl | rfl <;> decide, fun h2 => by rw [hx] at h2 ⊢; exact ha (h2 x (List.mem_singleton.2 rfl)), hb⟩
theorem one_list {s : ByteArray} (hs : s.size = 1) : ∃ x : UInt8, s[0]'(by omega) = x ∧ s.data.toList = [x] := by
  have hl : s.data.toList.length = 1 := by rw [Array.length_toList]; exact hs
  refine ⟨_, rfl, ?_⟩
  apply List.ext_getElem?
  intro j
  by_cases hj : j < 1
  · obtain rfl : j = 0 := by omega
    rw [List.getElem?_eq_getElem (by omega)]
    rfl
  · rw [List.getElem?_eq_none (by omega), List.getElem?_eq_none (by simp; omega)]
set_option maxRecDepth 100000 in
set_option maxHeartbeats 4000000 in
theorem lia_one {w : World} (s : ByteArray) (hs : s.size = 1) : Calls Tryd.prog 28 #[.string s, .string ⟨#[43, 45]⟩] w (LastAns s w) := by
  have HI := Lib.hid (fun W (r : Nat) => ixr_any (w := W) r)
  obtain ⟨x, hx, hl⟩ := one_list hs
  have hx0 : (0 : Int) ≤ (x.toNat : Int) := by omega
  have hx1 : (x.toNat : Int) < 256 := by have := UInt8.toNat_lt x; omega
  have hn1 : ((s.size : Int) == 1) = true := beq_iff_eq.2 (by omega)
  have hsz : (0 : Int) < (s.size : Int) := by omega
  have HSL := Lib.hid (show s.size = 1 ∧ s.data.toList = [x] from ⟨hs, hl⟩)
  clear hl
  by_cases hx8 : x.toNat < 128
  · have hlt : ¬ ((128 : Int) ≤ (x.toNat : Int)) := by omega
    have HX := Lib.hid hx8
    clear hx8
    go_enter Tryd.func28, Tryd.ntmps28
    go_wp2_with fail
    refine (HI.out _ x.toNat).mono ?_
    rintro e w1 ⟨n, rfl, hn, hb⟩
    have HN := Lib.hid hn
    clear hn
    by_cases h0 : 0 ≤ n
    · go_wp2
      go_ret
      exact ans_one HSL.out.1 HSL.out.2 (.inl rfl) (fun _ => one_some ((pm_nat x).2 (HN.out.1 h0))) hb
    · go_wp2
      go_ret
      exact ans_one HSL.out.1 HSL.out.2 (.inr rfl) (fun _ => one_none (fun hp => absurd (HN.out.2 ((pm_nat x).1 hp)) (by omega))) hb
  · have hge : (128 : Int) ≤ (x.toNat : Int) := by omega
    have HX := Lib.hid hx8
    clear hx8
    go_enter Tryd.func28, Tryd.ntmps28
    go_wp2_with fail
    refine (HI.out _ 65533).mono ?_
    rintro e w1 ⟨n, rfl, hn, hb⟩
    have h0 : ¬ 0 ≤ n := fun h => by rcases hn.1 h with h | h <;> exact absurd h (by decide)
    clear hn
    go_wp2
    go_ret
    exact ans_one HSL.out.1 HSL.out.2 (.inr rfl) (fun h => absurd h HX.out) hb

set_option maxRecDepth 100000 in
set_option maxHeartbeats 8000000 in
theorem lia_long {w : World} (s : ByteArray) (h8 : 8 < s.size) (hs : s.size ≤ 1000000) : Calls Tryd.prog 28 #[.string s, .string ⟨#[43, 45]⟩] w (LastAns s w) := by
  obtain ⟨C, hC⟩ : ∃ C, Lib.setCells [43, 45] = C := ⟨_, rfl⟩
  have hM : ∀ W, Calls Tryd.prog 40 #[.string ⟨#[43, 45]⟩] W fun e w' => e = .returned (.tuple #[.agg C, .bool true]) ∧ w' = W.alloc (.cells C 70) := fun W => by
    have h := Tryd.strings_makeASCIISet zero_set ⟨#[43, 45]⟩ W (by decide) (fun j b hb => by
      have hm := List.mem_of_getElem? hb
      rcases List.mem_cons.1 hm with rfl | hm
      · decide
      · rcases List.mem_cons.1 hm with rfl | hm
        · decide
        · exact absurd hm List.not_mem_nil)
    rw [show (⟨#[43, 45]⟩ : ByteArray).data.toList = [43, 45] from rfl, hC] at h
    exact h
  have hCs : C.size = 256 := by rw [← hC]; exact Lib.setCells_size _
  have hCo : C.all (·.oneCell') = true := by rw [← hC]; exact Lib.setCells_one _
  have hn1 : ((s.size : Int) == 1) = false := beq_eq_false_iff_ne.2 (by omega)
  have hSU := Lib.hid (show ∀ W, Calls Tryd.prog 39 #[.int .i64 (s.size : Int)] W fun e w' => e = .returned (.bool true) ∧ w' = W from fun W => by
    have h := Tryd.strings_shouldUseASCIISet (s.size : Int) W
    rw [show decide ((8 : Int) < (s.size : Int)) = true from decide_eq_true (by omega)] at h
    exact h)
  have hsc : (storeCells ⟨w.heap.size + 1, 0, none⟩ C.toList 0).run Tryd.prog ((w.alloc (.cells C 70)).alloc (.cells (Array.replicate 256 (.bool false)) 70)) = .ok () ((w.alloc (.cells C 70)).alloc (.cells C 70)) := by
    have := run_storeCells_new (P := Tryd.prog) (w.alloc (.cells C 70)) 70 (Array.replicate 256 (.bool false)) C (by rw [hCs]; exact info_set) (by rw [hCs, Array.size_replicate]) hCo
    simpa using this
  have hcellAt : ∀ x : UInt8, ((w.alloc (.cells C 70)).alloc (.cells C 70)).cell? ⟨w.heap.size + 1, x.toNat, none⟩ = some (.bool ([43, 45].contains x)) := fun x => by
    rw [World.cell?_alloc_at _ _ _ _ (by simp), ← hC, Lib.setCells_at]
  have HC := Lib.hid hcellAt
  have HM := Lib.hid hM
  have HCC := Lib.hid hC
  clear hcellAt hM hC
  have hs9 : (s.size : Int) ≤ 1000000 := by omega
  go_enter Tryd.func28, Tryd.ntmps28
  go_wp2_with fail
  refine (hSU.out _).mono ?_
  rintro e w' ⟨rfl, rfl⟩
  go_wp2_with fail
  refine (HM.out _).mono ?_
  rintro e w' ⟨rfl, rfl⟩
  go_wp2
  rw [zero_cells]
  simp only [Result.andThen, hsc]
  rw [Oper.upon_skip]
  go_wp2
  have HB := Lib.hid (((Below.refl w'.heap.size w').alloc (Nat.le_refl _) (.cells C 70)).alloc (by simp) (.cells C 70))
  clear hsc hSU HM HCC hCs hCo
  generalize (w'.alloc (.cells C 70)).alloc (.cells C 70) = WS at *
  have HL := Lib.hid (show s.data.toList.length = s.size from by rw [Array.length_toList]; rfl)
  have HN0 := Lib.hid (show NoFrom s.data.toList s.size from by rw [← HL.out]; exact NoFrom.none)
  go_loopg [8] s.size (fun g s8 wx => g ≤ s.size ∧ s8 = .int .i64 ((g : Int) - 1) ∧ WS = wx ∧ NoFrom s.data.toList g)
  case atStart => exact ⟨Nat.le_refl _, rfl, rfl, HN0.out⟩
  case round =>
    obtain ⟨hg, rfl, rfl, hno⟩ := hrel
    have HN := Lib.hid hno
    clear hno
    cases gk with
    | zero =>
      rw [show ((0 : Nat) : Int) - 1 = -1 from rfl]
      go_wp2
      go_ret
      exact ⟨-1, rfl, Int.le_refl _, by omega, fun _ => last_none HN.out, HB.out⟩
    | succ k =>
      rw [show ((k + 1 : Nat) : Int) - 1 = (k : Int) by omega]
      have hk : k < s.size := by omega
      have hki : (k : Int) < (s.size : Int) := by omega
      have hk0 : (0 : Int) ≤ (k : Int) := by omega
      obtain ⟨x, hx⟩ : ∃ x : UInt8, s[k]'hk = x := ⟨_, rfl⟩
      have hxl : s.data.toList[k]? = some x := by rw [← hx]; exact Lib.data_getElem? s k hk
      have Hx := Lib.hid hxl
      clear hxl
      have hcx := HC.out x
      by_cases hp : PM x
      · have hin : [43, 45].contains x = true := by rcases hp with rfl | rfl <;> decide
        have HP := Lib.hid hp
        rw [hin] at hcx
        have HCX := Lib.hid (Tryd.asciiSet_contains _ x _ WS hcx)
        clear hcx hin hp
        go_wp2_with fail
        refine HCX.out.mono ?_
        rintro e _ ⟨rfl, rfl⟩
        go_wp2
        go_ret
        exact ⟨k, rfl, by omega, by omega, fun _ => last_some HN.out Hx.out HP.out, HB.out⟩
      · have hin : [43, 45].contains x = false := by
          rw [Bool.eq_false_iff]
          intro h
          have : x = 43 ∨ x = 45 := by simpa using h
          exact hp this
        have HP := Lib.hid hp
        rw [hin] at hcx
        have HCX := Lib.hid (Tryd.asciiSet_contains _ x _ WS hcx)
        clear hcx hin hp
        go_wp2_with fail
        refine HCX.out.mono ?_
        rintro e _ ⟨rfl, rfl⟩
        go_wp2
        go_roundg k
        case measure => omega
        case rel => exact ⟨by omega, rfl, rfl, NoFrom.succ HN.out Hx.out HP.out⟩
theorem dl_size {l : List UInt8} (h : l ≠ []) : 1 ≤ (Lib.decodeLastL l).2 ∧ (Lib.decodeLastL l).2 ≤ l.length := by
  have hl : 1 ≤ l.length := by
    cases l with
    | nil => exact absurd rfl h
    | cons a b => simp
  have hs := Lib.lastStart_lt l h
  unfold Lib.decodeLastL
  rw [if_neg h]
  split
  · exact ⟨Nat.le_refl 1, hl⟩
  · simp only
    split
    · omega
    · exact ⟨Nat.le_refl 1, hl⟩
theorem dl_asc {l : List UInt8} {k : Nat} {x : UInt8} (hl : l.length = k + 1) (hx : l[k]? = some x) (ha : x.toNat < 128) : Lib.decodeLastL l = (x.toNat, 1) := by
  have h : l ≠ [] := fun e => by rw [e] at hl; cases hl
  have hg : l.getD (l.length - 1) 0 = x := by rw [hl, Nat.add_sub_cancel, List.getD_eq_getElem?_getD, hx]; rfl
  unfold Lib.decodeLastL
  rw [if_neg h, hg, if_pos ha]

set_option maxRecDepth 100000 in
set_option maxHeartbeats 8000000 in
theorem lia_short {w : World} (hU : U8 w) (s : ByteArray) (h8 : s.size ≤ 8) (h1 : s.size ≠ 1) : Calls Tryd.prog 28 #[.string s, .string ⟨#[43, 45]⟩] w (LastAns s w) := by
  have hn1 : ((s.size : Int) == 1) = false := beq_eq_false_iff_ne.2 (by omega)
  have HSU := Lib.hid (show ∀ W, Calls Tryd.prog 39 #[.int .i64 (s.size : Int)] W fun e w' => e = .returned (.bool false) ∧ w' = W from fun W => by
    have h := Tryd.strings_shouldUseASCIISet (s.size : Int) W
    rw [show decide ((8 : Int) < (s.size : Int)) = false from decide_eq_false (by omega)] at h
    exact h)
  have HI := Lib.hid (fun W (r : Nat) => ixr_any (w := W) r)
  have HU := Lib.hid hU
  have H8 := Lib.hid h8
  clear h8 h1 hU
  have hs8 : (s.size : Int) ≤ 8 := by have := H8.out; omega
  go_enter Tryd.func28, Tryd.ntmps28
  go_wp2_with fail
  refine (HSU.out _).mono ?_
  rintro e w1 ⟨rfl, rfl⟩
  go_wp2
  have HL := Lib.hid (show s.data.toList.length = s.size from by rw [Array.length_toList]; rfl)
  have HN0 := Lib.hid (show NoFrom s.data.toList s.size from by rw [← HL.out]; exact NoFrom.none)
  clear HSU
  go_loopg [13, 14, 15] s.size (fun g s13 _ _ wx => ∃ j : Nat, j ≤ g ∧ j ≤ s.size ∧ s13 = .int .i64 (j : Int) ∧ Below w1.heap.size w1 wx ∧ (Asc s.data.toList → NoFrom s.data.toList j))
  case atStart => exact ⟨s.size, Nat.le_refl _, Nat.le_refl _, rfl, Below.refl _ _, fun _ => HN0.out⟩
  case round =>
    obtain ⟨j, hjg, hj, rfl, hb, hno⟩ := hrel
    have HN := Lib.hid hno
    have HB := Lib.hid hb
    clear hno hb
    cases j with
    | zero =>
      go_wp2
      go_ret
      exact ⟨-1, rfl, Int.le_refl _, by omega, fun h => last_none (HN.out h), HB.out⟩
    | succ k =>
      obtain ⟨g, rfl⟩ : ∃ g, gk = g + 1 := ⟨gk - 1, by omega⟩
      have hki : (0 : Int) < ((k + 1 : Nat) : Int) := by omega
      have hkj : ((k + 1 : Nat) : Int) ≤ (s.size : Int) := by omega
      have hk8 : k + 1 ≤ 8 := by have := H8.out; omega
      have hee : (s.extract 0 (k + 1)).data.toList = s.data.toList.take (k + 1) := by
        rw [ByteArray.data_extract, Array.toList_extract]
        simp
      have hne : s.data.toList.take (k + 1) ≠ [] := fun h => by
        have := congrArg List.length h
        rw [List.length_take, HL.out, List.length_nil] at this
        omega
      have hle : (s.data.toList.take (k + 1)).length = k + 1 := by rw [List.length_take, HL.out]; omega
      obtain ⟨r, z, hd⟩ : ∃ r z, Lib.decodeLastL (s.data.toList.take (k + 1)) = (r, z) := ⟨_, _, rfl⟩
      have hz := dl_size hne
      rw [hd, hle] at hz
      have HD := Lib.hid (show ∀ W, U8 W → Calls Tryd.prog 42 #[.string (s.extract 0 (k + 1))] W fun e w' => e = .returned (.tuple #[.int .i32 (r : Int), .int .i64 (z : Int)]) ∧ Below W.heap.size W w' from fun W hW => by
        have h := Tryd.utf8_DecodeLastRuneInString (s.extract 0 (k + 1)) W (by
          have : (s.extract 0 (k + 1)).size = (s.extract 0 (k + 1)).data.toList.length := by rw [Array.length_toList]; rfl
          rw [this, hee, hle]; omega) hW
        rw [hee, hd] at h
        exact h)
      have HA := Lib.hid (show Asc s.data.toList → ∃ x : UInt8, s.data.toList[k]? = some x ∧ r = x.toNat ∧ z = 1 from fun ha => by
        have hk : k < s.data.toList.length := by rw [HL.out]; omega
        have hx : s.data.toList[k]? = some s.data.toList[k] := List.getElem?_eq_getElem hk
        have hxt : (s.data.toList.take (k + 1))[k]? = some s.data.toList[k] := by rw [List.getElem?_take, if_pos (by omega)]; exact hx
        have := dl_asc hle hxt (ha _ (List.getElem_mem hk))
        rw [hd] at this
        injection this with e1 e2
        exact ⟨_, hx, e1, e2⟩)
      have hz1 : (1 : Int) ≤ (z : Int) := by omega
      have hz2 : (z : Int) ≤ ((k + 1 : Nat) : Int) := by omega
      have HZ := Lib.hid hz
      clear hee hne hle hd hz
      go_wp2_with fail
      refine (HD.out _ (HU.out.below HB.out)).mono ?_
      rintro e w2 ⟨rfl, hb2⟩
      have HB2 := Lib.hid (HB.out.trans (hb2.mono HB.out.size))
      clear hb2
      go_wp2_with fail
      refine (HI.out _ r).mono ?_
      rintro e w3 ⟨n, rfl, hn, hb3⟩
      have HN3 := Lib.hid hn
      have HB3 := Lib.hid (HB2.out.trans (hb3.mono HB2.out.size))
      clear hn hb3
      by_cases h0 : 0 ≤ n
      · go_wp2
        go_ret
        have H0 := Lib.hid h0
        refine ⟨_, rfl, by omega, by omega, fun ha => ?_, HB3.out⟩
        obtain ⟨x, hx, rfl, rfl⟩ := HA.out ha
        have := last_some (HN.out ha) hx ((pm_nat x).2 (HN3.out.1 H0.out))
        rw [show (k : Int) + 1 - ((1 : Nat) : Int) = (k : Int) by omega]
        exact this
      · have H0 := Lib.hid h0
        go_wp2
        go_roundg g
        case measure => omega
        case rel =>
          have hz := HZ.out
          refine ⟨k + 1 - z, by omega, by omega, ?_, HB3.out, fun ha => ?_⟩
          · rw [show ((k + 1 - z : Nat) : Int) = (k : Int) + 1 - (z : Int) by omega]
          · obtain ⟨x, hx, rfl, rfl⟩ := HA.out ha
            exact NoFrom.succ (HN.out ha) hx (fun hp => absurd (HN3.out.2 ((pm_nat x).1 hp)) (Int.not_le.2 H0.out))
/-- strings.LastIndexAny for two signs. -/
theorem lia_any {w : World} (hU : U8 w) (s : ByteArray) (hs : s.size ≤ 1000000) : Calls Tryd.prog 28 #[.string s, .string ⟨#[43, 45]⟩] w (LastAns s w) := by
  by_cases h1 : s.size = 1
  · exact lia_one s h1
  by_cases h8 : s.size ≤ 8
  · exact lia_short hU s h8 h1
  · exact lia_long s (by omega) hs
end Go.Proofs.YtodphfgopngpeaaDoor
