/-
  script.Text: the text of a script. Condition: the tables lie as the program's text, and the library's, lay them.
-/
import Derived.Test.YtgefnicpkfcghaaDoorSc7
namespace Go.Proofs.YtgefnicpkfcghaaDoor
open Go.RowKit
set_option linter.unusedVariables false
set_option linter.unusedSimpArgs false

/-- All numbers are of their kinds. -/
def Vals (xs : List O) : Prop := ∀ x ∈ xs, RangeO x
def linesL (xs : List O) : List UInt8 := xs.flatMap fun x => lineO x ++ [10]
def Fine (xs : List O) : Prop := xs.length ≤ 10000 ∧ ∀ x ∈ xs, MayO x
instance (xs : List O) : Decidable (Fine xs) := by unfold Fine; infer_instance
def textL (xs : List O) : Option (List UInt8) := if Fine xs then some (linesL xs) else none
theorem lines_take {xs : List O} {k : Nat} {x : O} (h : xs[k]? = some x) : linesL (xs.take (k + 1)) = linesL (xs.take k) ++ lineO x ++ [10] := by
  unfold linesL
  rw [List.take_add_one, h]
  simp
theorem lines_len : ∀ (xs : List O), (∀ x ∈ xs, MayO x) → Vals xs → (linesL xs).length ≤ xs.length * 1001
  | [], _, _ => by simp [linesL]
  | x :: xs, h, hv => by
    have h1 := lines_len xs (fun y hy => h y (List.mem_cons_of_mem _ hy)) (fun y hy => hv y (List.mem_cons_of_mem _ hy))
    have h2 := lineO_len (h x (List.mem_cons_self ..)) (hv x (List.mem_cons_self ..))
    have e : linesL (x :: xs) = lineO x ++ [10] ++ linesL xs := rfl
    rw [e]
    simp only [List.length_append, List.length_cons, List.length_nil]
    omega

set_option maxRecDepth 100000 in
set_option maxHeartbeats 2000000 in
theorem badO_any {w : World} (hG : Ground w) (k_ co nn p s m : Int) (nm : ByteArray) (hr : RangeO ⟨k_, co, nn, p, s, m, nm⟩) :
    Calls Tryd.prog 40 #[.agg #[.int .i64 k_, .int .i64 co, .int .i64 nn, .int .i64 p, .int .i64 s, .int .u32 m, .string nm]] w fun e w' => e = .returned (.bool (!decide (MayO ⟨k_, co, nn, p, s, m, nm⟩))) ∧ Below w.heap.size w w' := by
  have HC := fun W (hW : Below w.heap.size w W) => check_any (hG.below hW).words ⟨k_, co, nn, p, s, m, nm⟩ hr
  have hb0 := (Below.refl w.heap.size w).alloc (Nat.le_refl _) (.cells #[.int .i64 k_, .int .i64 co, .int .i64 nn, .int .i64 p, .int .i64 s, .int .u32 m, .string nm] 24)
  have HB0 := Lib.hid hb0
  obtain ⟨r, hr_⟩ : ∃ r, r = (!decide (MayO ⟨k_, co, nn, p, s, m, nm⟩)) := ⟨_, rfl⟩
  rw [← hr_]
  obtain ⟨me, hm⟩ : ∃ me, me = mayE ⟨k_, co, nn, p, s, m, nm⟩ := ⟨_, rfl⟩
  rw [← hm] at HC
  simp only [O.cells] at HC
  replace HC := Lib.hid HC
  have hmr : (me = 0 ∧ r = false) ∨ (me = 200 ∧ r = true) := by
    by_cases h : MayO ⟨k_, co, nn, p, s, m, nm⟩
    · exact .inl ⟨hm.trans (mayE_yes h), by rw [hr_, decide_eq_true h]; rfl⟩
    · exact .inr ⟨hm.trans (mayE_no h), by rw [hr_, decide_eq_false h]; rfl⟩
  clear hb0 hr_ hr hm hG
  rcases hmr with ⟨rfl, rfl⟩ | ⟨rfl, rfl⟩
  all_goals
    go_enter Tryd.func40, Tryd.ntmps40
    go_wp2_with fail
    refine (HC.out _ HB0.out).mono ?_
    rintro e w1 ⟨rfl, hb1⟩
    have HB1 := Lib.hid (bl_step HB0.out HB0.out.size hb1)
    clear hb1
    go_wp2
    go_ret
    exact ⟨rfl, HB1.out⟩

set_option maxRecDepth 100000 in
set_option maxHeartbeats 4000000 in
theorem indexBad_any {w : World} (hG : Ground w) (A : Option Addr) (ca : Nat) (xs : List O) (hl : xs.length ≤ 1000000) (hA : OpsAt w A xs) (hv : Vals xs) :
    Calls Tryd.prog 58 #[.slice A xs.length ca, .func (.func 40) #[] #[]] w fun e w' => ∃ r : Int, e = .returned (.int .i64 r) ∧ (0 ≤ r ↔ ∃ x ∈ xs, ¬ MayO x) ∧ -1 ≤ r ∧ r ≤ 1000000 ∧ Below w.heap.size w w' := by
  have HV := Lib.hid hv
  have HG := Lib.hid hG
  clear hv hG
  go_enter Tryd.func58, Tryd.ntmps58
  go_wp2
  go_loopw [8] (fun i wr => ∃ k : Nat, i = .int .i64 (k : Int) ∧ k ≤ xs.length ∧ (∀ x ∈ xs.take k, MayO x) ∧ Below w.heap.size w wr) (fun i _ => xs.length - (intOf i).toNat)
  case atStart => exact ⟨0, rfl, Nat.zero_le _, fun x hx => by simp at hx, Below.refl _ _⟩
  case round =>
    obtain ⟨k, rfl, hk, hpre, hB⟩ := hrel
    by_cases hkl : k < xs.length
    · have hkb : (k : Int) < (xs.length : Int) := by omega
      have hxe : xs[k]? = some xs[k] := List.getElem?_eq_getElem hkl
      have hmem : xs[k] ∈ xs := List.getElem_mem hkl
      obtain ⟨b, off, rfl, hbl, c0, c1, c2, c3, c4, c5, c6⟩ := op_at (hA.below hB) hxe
      have hxv := HV.out _ hmem
      generalize xs[k] = x at *
      obtain ⟨k_, co, nn, p, s, m, nm⟩ := x
      have HC := Lib.hid (badO_any (HG.out.below hB) k_ co nn p s m nm hxv)
      simp only at c0 c1 c2 c3 c4 c5 c6
      have HP := Lib.hid hpre
      have HXE := Lib.hid hxe
      have HM := Lib.hid hmem
      clear hpre hxe hxv hmem
      by_cases hmy : MayO ⟨k_, co, nn, p, s, m, nm⟩
      · rw [decide_eq_true hmy] at HC
        have HMY := Lib.hid hmy
        clear hmy
        go_wp2_with fail
        refine HC.out.mono ?_
        rintro e w1 ⟨rfl, hb1⟩
        have HB1 := Lib.hid (bl_step hB hB.size hb1)
        clear hb1
        go_wp2
        go_roundw
        case rel => exact ⟨k + 1, by go_num, by omega, fun y hy => by
          rw [List.take_add_one, HXE.out, List.mem_append] at hy
          rcases hy with hy | hy
          · exact HP.out y hy
          · simp at hy
            rw [hy]
            exact HMY.out, HB1.out⟩
        case measure => simp [intOf]; omega
      · rw [decide_eq_false hmy] at HC
        have HMY := Lib.hid hmy
        clear hmy
        go_wp2_with fail
        refine HC.out.mono ?_
        rintro e w1 ⟨rfl, hb1⟩
        have HB1 := Lib.hid (bl_step hB hB.size hb1)
        clear hb1
        go_wp2
        go_ret
        exact ⟨_, rfl, ⟨fun _ => ⟨_, HM.out, HMY.out⟩, fun _ => by omega⟩, by omega, by omega, HB1.out⟩
    · have hkk : k = xs.length := by omega
      subst hkk
      rw [List.take_length] at hpre
      have HP := Lib.hid hpre
      clear hpre
      go_wp2
      go_ret
      exact ⟨-1, rfl, ⟨fun h => by omega, fun ⟨x, hx, h⟩ => absurd (HP.out x hx) h⟩, by omega, by omega, hB⟩

set_option maxRecDepth 100000 in
set_option maxHeartbeats 4000000 in
theorem containsBad_any {w : World} (hG : Ground w) (A : Option Addr) (ca : Nat) (xs : List O) (hl : xs.length ≤ 1000000) (hA : OpsAt w A xs) (hv : Vals xs) :
    Calls Tryd.prog 39 #[.slice A xs.length ca, .func (.func 40) #[] #[]] w fun e w' => e = .returned (.bool (!decide (∀ x ∈ xs, MayO x))) ∧ Below w.heap.size w w' := by
  have H := Lib.hid (indexBad_any hG A ca xs hl hA hv)
  obtain ⟨bb, hbb⟩ : ∃ bb, (!decide (∀ x ∈ xs, MayO x)) = bb := ⟨_, rfl⟩
  rw [hbb]
  have HBB := Lib.hid hbb
  clear hA hbb hG
  go_enter Tryd.func39, Tryd.ntmps39
  go_wp2_with fail
  refine H.out.mono ?_
  rintro e w1 ⟨r, rfl, hr, h1, h2, hb⟩
  have HB := Lib.hid hb
  clear hb
  by_cases h0 : 0 ≤ r
  · have hm : true = bb := by
      rw [← HBB.out, decide_eq_false]
      · rfl
      · obtain ⟨x, hx, h⟩ := hr.1 h0
        exact fun h' => h (h' x hx)
    subst hm
    clear hr
    go_wp2
    go_ret
    exact ⟨by rfl, HB.out⟩
  · have hm : false = bb := by
      rw [← HBB.out, decide_eq_true]
      · rfl
      · intro x hx
        by_cases h : MayO x
        · exact h
        · exact absurd (hr.2 ⟨x, hx, h⟩) h0
    subst hm
    clear hr
    go_wp2
    go_ret
    exact ⟨by change Ending.returned (.bool (decide (0 ≤ r))) = _; rw [show decide (0 ≤ r) = false from decide_eq_false (by omega)], HB.out⟩

set_option maxRecDepth 100000 in
set_option maxHeartbeats 4000000 in
theorem text_any {w : World} (hG : Ground w) (A : Option Addr) (ca : Nat) (xs : List O) (hl : xs.length ≤ 1000000) (hA : OpsAt w A xs) (hv : Vals xs) :
    Calls Tryd.prog 18 #[.slice A xs.length ca] w fun e w' => e = .returned (.tuple #[strV ((textL xs).getD []), .int .i64 (errO (textL xs))]) ∧ Below w.heap.size w w' := by
  have HK := Lib.hid (containsBad_any hG A ca xs hl hA hv)
  have HA := Lib.hid hA
  have HG := Lib.hid hG
  have HV := Lib.hid hv
  clear hA hv hG
  by_cases hlen : 10000 < xs.length
  · have hb : (10000 : Int) < (xs.length : Int) := by omega
    have hn : textL xs = none := if_neg (fun h => by have := h.1; omega)
    rw [hn]
    go_enter Tryd.func18, Tryd.ntmps18
    go_wp2
    go_ret2
    exact ⟨rfl, Below.refl _ _⟩
  have hb : ¬ (10000 : Int) < (xs.length : Int) := by omega
  by_cases hmy : ∀ x ∈ xs, MayO x
  case neg =>
    have hn : textL xs = none := if_neg (fun h => hmy h.2)
    rw [hn]
    rw [decide_eq_false hmy] at HK
    clear hn hmy
    go_enter Tryd.func18, Tryd.ntmps18
    go_wp2_with fail
    refine HK.out.mono ?_
    rintro e w1 ⟨rfl, hb1⟩
    have HB1 := Lib.hid hb1
    clear hb1
    go_wp2
    go_ret2
    exact ⟨rfl, HB1.out⟩
  have hn : textL xs = some (linesL xs) := if_pos ⟨by omega, hmy⟩
  rw [hn]
  rw [decide_eq_true hmy] at HK
  have HMY := Lib.hid hmy
  have HLL := Lib.hid (lines_len (xs.take 0) (fun y hy => by simp at hy) (fun y hy => by simp at hy))
  have HTK := Lib.hid (fun k => show (linesL (xs.take k)).length ≤ 10010000 from by
    have h1 := lines_len (xs.take k) (fun y hy => hmy y (List.mem_of_mem_take hy)) (fun y hy => HV.out y (List.mem_of_mem_take hy))
    have h2 : (xs.take k).length ≤ xs.length := by rw [List.length_take]; omega
    omega)
  clear hn hmy
  go_enter Tryd.func18, Tryd.ntmps18
  go_wp2_with fail
  refine HK.out.mono ?_
  rintro e W1 ⟨rfl, hb1⟩
  have hIB := IsB.new W1
  have hB2 := (Below.refl W1.heap.size W1).alloc (Nat.le_refl _) (.cells #[.pointer none, .slice none 0 0] 76)
  have HB1 := Lib.hid hb1
  have HA1 := Lib.hid (HA.out.below hb1)
  clear hb1
  go_wp2_with fail
  generalize hW2 : W1.alloc (.cells #[.pointer none, .slice none 0 0] 76) = W2 at *
  clear hW2
  go_loopw [18] (fun i wr => ∃ k : Nat, i = .int .i64 (k : Int) ∧ k ≤ xs.length ∧ IsB wr W1.heap.size W1.heap.size (linesL (xs.take k)) ∧ Below W1.heap.size W1 wr) (fun i _ => xs.length - (intOf i).toNat)
  case atStart => exact ⟨0, rfl, Nat.zero_le _, hIB, hB2⟩
  case round =>
    obtain ⟨k, rfl, hk, hI, hB⟩ := hrel
    clear hIB hB2
    have hs1 := hB.size
    have HTK0 := HTK.out k
    by_cases hkl : k < xs.length
    · have hka : (k : Int) < (xs.length : Int) := by omega
      have hxe : xs[k]? = some xs[k] := List.getElem?_eq_getElem hkl
      have hmem : xs[k] ∈ xs := List.getElem_mem hkl
      obtain ⟨b, off, rfl, hbl, c0, c1, c2, c3, c4, c5, c6⟩ := op_at (HA1.out.below hB) hxe
      have hxv := HV.out _ hmem
      have hxm := HMY.out _ hmem
      have HLT := Lib.hid (lines_take hxe)
      have hll := lineO_len hxm hxv
      generalize xs[k] = x at *
      obtain ⟨k_, co, nn, p, s, m, nm⟩ := x
      simp only at c0 c1 c2 c3 c4 c5 c6
      obtain ⟨sl, hsl⟩ : ∃ sl : ByteArray, sl = ⟨(lineO ⟨k_, co, nn, p, s, m, nm⟩).toArray⟩ := ⟨_, rfl⟩
      have hsz : sl.size ≤ 1000 := by rw [hsl]; show (lineO _).toArray.size ≤ _; simpa using hll
      have HL := Lib.hid (fun W (hW : Below W1.heap.size W1 W) => show Calls Tryd.prog 10 #[.agg #[.int .i64 k_, .int .i64 co, .int .i64 nn, .int .i64 p, .int .i64 s, .int .u32 m, .string nm]] W fun e w' => e = .returned (.tuple #[.string sl, .int .i64 0]) ∧ Below W.heap.size W w' from by
        rw [hsl]
        exact line_yes ((HG.out.below HB1.out).below hW) ⟨k_, co, nn, p, s, m, nm⟩ hxv hxm)
      have hb0 := (Below.refl wr.heap.size wr).alloc (Nat.le_refl _) (.cells #[.int .i64 k_, .int .i64 co, .int .i64 nn, .int .i64 p, .int .i64 s, .int .u32 m, .string nm] 24)
      have hX := Blk.new wr 24 #[.int .i64 k_, .int .i64 co, .int .i64 nn, .int .i64 p, .int .i64 s, .int .u32 m, .string nm]
      have hI0 := hI.below hb0
      have hB0 := bl_step hB hs1 hb0
      have HI := Lib.hid hI0
      have HSL := Lib.hid hsl
      clear hxe hmem hxv hxm hsl hI hI0 hll
      have hs2 := hB0.size
      go_wp2_with fail
      refine (HL.out _ hB0).mono ?_
      rintro e w3 ⟨rfl, hb3⟩
      have hB3 := bl_step hB0 hs2 hb3
      have HI3 := Lib.hid (HI.out.below hb3)
      have hs3 := hB3.size
      clear hb3
      go_wp2_with fail
      have happ : (sl ++ ⟨#[10]⟩ : ByteArray).data.toList = sl.data.toList ++ [10] := by rw [ByteArray.data_append]; simp
      have hsap : (sl ++ ⟨#[10]⟩ : ByteArray).size = sl.size + 1 := by rw [ByteArray.size_append]; rfl
      refine (writeString_any _ _ _ _ HI3.out (by rw [hsap]; omega) hs3).mono ?_
      rintro e w4 ⟨rfl, hI4, hb4, _⟩
      rw [happ] at hI4
      have HI4 := Lib.hid hI4
      have HB4 := Lib.hid (hB3.trans hb4)
      clear hI4 hb4 happ hsap
      go_wp2
      go_roundw
      case rel => exact ⟨k + 1, by go_num, by omega, by
        rw [HLT.out, List.append_assoc]
        have h := HI4.out
        rw [HSL.out] at h
        exact h, HB4.out⟩
      case measure => simp [intOf]; omega
    · have hkk : k = xs.length := by omega
      subst hkk
      rw [List.take_length] at hI
      have HS := Lib.hid (bstring_any _ _ _ hI hs1)
      have HBZ := Lib.hid (HB1.out.trans (hB.mono HB1.out.size))
      clear hI
      go_wp2_with fail
      refine HS.out.mono ?_
      rintro e w5 ⟨rfl, hb5⟩
      have HB5 := Lib.hid (HB1.out.trans ((hB.trans hb5).mono HB1.out.size))
      clear hb5
      go_wp2
      go_ret2
      exact ⟨rfl, HB5.out⟩
end Go.Proofs.YtgefnicpkfcghaaDoor
