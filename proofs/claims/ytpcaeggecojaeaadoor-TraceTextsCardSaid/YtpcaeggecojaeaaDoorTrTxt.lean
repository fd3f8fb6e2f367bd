/-
  trace.Text: the text of what is observed. Condition: the tables lie as the program's text, and the library's, lay them.
-/
import Derived.Test.YtpcaeggecojaeaaDoorTrD10
namespace Go.Proofs.YtpcaeggecojaeaaDoor
open Go.RowKit
set_option linter.unusedVariables false
set_option linter.unusedSimpArgs false

/-- All that is observed has a value of 32 bits. -/
def Vals (xs : List S) : Prop := ∀ x ∈ xs, 0 ≤ x.v ∧ x.v ≤ 4294967295
def linesL (xs : List S) : List UInt8 := xs.flatMap fun x => lineL x ++ [10]
def Fine (xs : List S) : Prop := xs.length ≤ 10000 ∧ ∀ x ∈ xs, May x
instance (xs : List S) : Decidable (Fine xs) := by unfold Fine; infer_instance
def textL (xs : List S) : Option (List UInt8) := if Fine xs then some (linesL xs) else none
theorem line_len {x : S} (h : May x) (h0 : 0 ≤ x.v) (hv : x.v ≤ 4294967295) : (lineL x).length ≤ 200 := by
  obtain ⟨p, k, c, v⟩ := x
  obtain ⟨p1, p2, k1, k2, hc1, hc2, hk3⟩ := h
  simp only at *
  have h1 := itoa_len p (by omega) (by omega)
  have h2 := kindW_len k.toNat
  have h4 := dec_len (u := v.toNat) (by omega)
  unfold lineL lineW
  simp only
  split
  · rename_i hk
    have := hc1 hk
    have h3 := itoa_len c (by omega) (by omega)
    rw [glue4]
    simp only [List.length_append, List.length_cons]
    omega
  · rw [glue3]
    simp only [List.length_append, List.length_cons]
    omega
theorem lines_take {xs : List S} {k : Nat} {x : S} (h : xs[k]? = some x) : linesL (xs.take (k + 1)) = linesL (xs.take k) ++ lineL x ++ [10] := by
  unfold linesL
  rw [List.take_add_one, h]
  simp
theorem lines_len : ∀ (xs : List S), (∀ x ∈ xs, May x) → Vals xs → (linesL xs).length ≤ xs.length * 201
  | [], _, _ => by simp [linesL]
  | x :: xs, h, hv => by
    have h1 := lines_len xs (fun y hy => h y (List.mem_cons_of_mem _ hy)) (fun y hy => hv y (List.mem_cons_of_mem _ hy))
    have h2 := line_len (h x (List.mem_cons_self ..)) (hv x (List.mem_cons_self ..)).1 (hv x (List.mem_cons_self ..)).2
    have e : linesL (x :: xs) = lineL x ++ [10] ++ linesL xs := rfl
    rw [e]
    simp only [List.length_append, List.length_cons, List.length_nil]
    omega

set_option maxRecDepth 100000 in
set_option maxHeartbeats 2000000 in
theorem bad_any {w : World} (p k c v : Int) (hv : 0 ≤ v) :
    Calls Tryd.prog 40 #[.agg #[.int .i64 p, .int .i64 k, .int .i64 c, .int .u32 v]] w fun e w' => e = .returned (.bool (!decide (May ⟨p, k, c, v⟩))) ∧ Below w.heap.size w w' := by
  have HC := Lib.hid (fun W => check_any (w := W) p k c v hv)
  have hb0 := (Below.refl w.heap.size w).alloc (Nat.le_refl _) (.cells #[.int .i64 p, .int .i64 k, .int .i64 c, .int .u32 v] 27)
  have HB0 := Lib.hid hb0
  obtain ⟨r, hr⟩ : ∃ r, r = (!decide (May ⟨p, k, c, v⟩)) := ⟨_, rfl⟩
  rw [← hr]
  obtain ⟨m, hm⟩ : ∃ m, m = mayN ⟨p, k, c, v⟩ := ⟨_, rfl⟩
  rw [← hm] at HC
  have hmr : (m = 0 ∧ r = false) ∨ (m = 210 ∧ r = true) := by
    by_cases h : May ⟨p, k, c, v⟩
    · exact .inl ⟨hm.trans (mayN_yes h), by rw [hr, decide_eq_true h]; rfl⟩
    · exact .inr ⟨hm.trans (mayN_no h), by rw [hr, decide_eq_false h]; rfl⟩
  clear hb0 hr hm
  rcases hmr with ⟨rfl, rfl⟩ | ⟨rfl, rfl⟩
  all_goals
    go_enter Tryd.func40, Tryd.ntmps40
    go_wp2_with fail
    refine (HC.out _).mono ?_
    rintro e w1 ⟨rfl, hb1⟩
    have HB1 := Lib.hid (bl_step HB0.out HB0.out.size hb1)
    clear hb1
    go_wp2
    go_ret
    exact ⟨rfl, HB1.out⟩

set_option maxRecDepth 100000 in
set_option maxHeartbeats 4000000 in
theorem indexBad_any {w : World} (A : Option Addr) (ca : Nat) (xs : List S) (hl : xs.length ≤ 1000000) (hA : SeenAt w A xs) (hv : Vals xs) :
    Calls Tryd.prog 56 #[.slice A xs.length ca, .func (.func 40) #[] #[]] w fun e w' => ∃ r : Int, e = .returned (.int .i64 r) ∧ (0 ≤ r ↔ ∃ x ∈ xs, ¬ May x) ∧ -1 ≤ r ∧ r ≤ 1000000 ∧ Below w.heap.size w w' := by
  have HV := Lib.hid hv
  clear hv
  go_enter Tryd.func56, Tryd.ntmps56
  go_wp2
  go_loopw [8] (fun i wr => ∃ k : Nat, i = .int .i64 (k : Int) ∧ k ≤ xs.length ∧ (∀ x ∈ xs.take k, May x) ∧ Below w.heap.size w wr) (fun i _ => xs.length - (intOf i).toNat)
  case atStart => exact ⟨0, rfl, Nat.zero_le _, fun x hx => by simp at hx, Below.refl _ _⟩
  case round =>
    obtain ⟨k, rfl, hk, hpre, hB⟩ := hrel
    by_cases hkl : k < xs.length
    · have hkb : (k : Int) < (xs.length : Int) := by omega
      have hxe : xs[k]? = some xs[k] := List.getElem?_eq_getElem hkl
      have hmem : xs[k] ∈ xs := List.getElem_mem hkl
      obtain ⟨b, off, rfl, hbl, c0, c1, c2, c3⟩ := seen_at (hA.below hB) hxe
      have hxv := HV.out _ hmem
      generalize xs[k] = x at *
      obtain ⟨p, q, c, v⟩ := x
      have HC := Lib.hid (bad_any (w := wr) p q c v hxv.1)
      simp only at c0 c1 c2 c3
      have HP := Lib.hid hpre
      have HXE := Lib.hid hxe
      have HM := Lib.hid hmem
      clear hpre hxe hxv hmem
      by_cases hmy : May ⟨p, q, c, v⟩
      · rw [decide_eq_true hmy] at HC
        have HMY := Lib.hid hmy
        clear hmy
        go_wp2_with fail
        refine HC.out.mono ?_
        rintro e w1 ⟨rfl, hb1⟩
        have HB1 := Lib.hid (bl_step hB hB.size hb1)
        clear hb1
        go_wp2
        go_roundw
        case rel => exact ⟨k + 1, by go_num, by omega, fun y hy => by
          rw [List.take_add_one, HXE.out, List.mem_append] at hy
          rcases hy with hy | hy
          · exact HP.out y hy
          · simp at hy
            rw [hy]
            exact HMY.out, HB1.out⟩
        case measure => simp [intOf]; omega
      · rw [decide_eq_false hmy] at HC
        have HMY := Lib.hid hmy
        clear hmy
        go_wp2_with fail
        refine HC.out.mono ?_
        rintro e w1 ⟨rfl, hb1⟩
        have HB1 := Lib.hid (bl_step hB hB.size hb1)
        clear hb1
        go_wp2
        go_ret
        exact ⟨_, rfl, ⟨fun _ => ⟨_, HM.out, HMY.out⟩, fun _ => by omega⟩, by omega, by omega, HB1.out⟩
    · have hkk : k = xs.length := by omega
      subst hkk
      rw [List.take_length] at hpre
      have HP := Lib.hid hpre
      clear hpre
      go_wp2
      go_ret
      exact ⟨-1, rfl, ⟨fun h => by omega, fun ⟨x, hx, h⟩ => absurd (HP.out x hx) h⟩, by omega, by omega, hB⟩

set_option maxRecDepth 100000 in
set_option maxHeartbeats 4000000 in
theorem containsBad_any {w : World} (A : Option Addr) (ca : Nat) (xs : List S) (hl : xs.length ≤ 1000000) (hA : SeenAt w A xs) (hv : Vals xs) :
    Calls Tryd.prog 39 #[.slice A xs.length ca, .func (.func 40) #[] #[]] w fun e w' => e = .returned (.bool (!decide (∀ x ∈ xs, May x))) ∧ Below w.heap.size w w' := by
  have H := Lib.hid (indexBad_any A ca xs hl hA hv)
  obtain ⟨bb, hbb⟩ : ∃ bb, (!decide (∀ x ∈ xs, May x)) = bb := ⟨_, rfl⟩
  rw [hbb]
  have HBB := Lib.hid hbb
  clear hA hbb
  go_enter Tryd.func39, Tryd.ntmps39
  go_wp2_with fail
  refine H.out.mono ?_
  rintro e w1 ⟨r, rfl, hr, h1, h2, hb⟩
  have HB := Lib.hid hb
  clear hb
  by_cases h0 : 0 ≤ r
  · have hm : true = bb := by
      rw [← HBB.out, decide_eq_false]
      · rfl
      · obtain ⟨x, hx, h⟩ := hr.1 h0
        exact fun h' => h (h' x hx)
    subst hm
    clear hr
    go_wp2
    go_ret
    exact ⟨by rfl, HB.out⟩
  · have hm : false = bb := by
      rw [← HBB.out, decide_eq_true]
      · rfl
      · intro x hx
        by_cases h : May x
        · exact h
        · exact absurd (hr.2 ⟨x, hx, h⟩) h0
    subst hm
    clear hr
    go_wp2
    go_ret
    exact ⟨by change Ending.returned (.bool (decide (0 ≤ r))) = _; rw [show decide (0 ≤ r) = false from decide_eq_false (by omega)], HB.out⟩

set_option maxRecDepth 100000 in
set_option maxHeartbeats 4000000 in
theorem text_any {w : World} (hG : Ground w) (A : Option Addr) (ca : Nat) (xs : List S) (hl : xs.length ≤ 1000000) (hA : SeenAt w A xs) (hv : Vals xs) :
    Calls Tryd.prog 18 #[.slice A xs.length ca] w fun e w' => e = .returned (.tuple #[strV ((textL xs).getD []), .int .i64 (errN (textL xs))]) ∧ Below w.heap.size w w' := by
  have HK := Lib.hid (containsBad_any A ca xs hl hA hv)
  have HA := Lib.hid hA
  have HG := Lib.hid hG
  have HV := Lib.hid hv
  clear hA hv hG
  by_cases hlen : 10000 < xs.length
  · have hb : (10000 : Int) < (xs.length : Int) := by omega
    have hn : textL xs = none := if_neg (fun h => by have := h.1; omega)
    rw [hn]
    go_enter Tryd.func18, Tryd.ntmps18
    go_wp2
    go_ret2
    exact ⟨rfl, Below.refl _ _⟩
  have hb : ¬ (10000 : Int) < (xs.length : Int) := by omega
  by_cases hmy : ∀ x ∈ xs, May x
  case neg =>
    have hn : textL xs = none := if_neg (fun h => hmy h.2)
    rw [hn]
    rw [decide_eq_false hmy] at HK
    clear hn hmy
    go_enter Tryd.func18, Tryd.ntmps18
    go_wp2_with fail
    refine HK.out.mono ?_
    rintro e w1 ⟨rfl, hb1⟩
    have HB1 := Lib.hid hb1
    clear hb1
    go_wp2
    go_ret2
    exact ⟨rfl, HB1.out⟩
  have hn : textL xs = some (linesL xs) := if_pos ⟨by omega, hmy⟩
  rw [hn]
  rw [decide_eq_true hmy] at HK
  have HMY := Lib.hid hmy
  have HLL := Lib.hid (lines_len (xs.take 0) (fun y hy => by simp at hy) (fun y hy => by simp at hy))
  have HTK := Lib.hid (fun k => show (linesL (xs.take k)).length ≤ 2010000 from by
    have h1 := lines_len (xs.take k) (fun y hy => hmy y (List.mem_of_mem_take hy)) (fun y hy => HV.out y (List.mem_of_mem_take hy))
    have h2 : (xs.take k).length ≤ xs.length := by rw [List.length_take]; omega
    omega)
  clear hn hmy
  go_enter Tryd.func18, Tryd.ntmps18
  go_wp2_with fail
  refine HK.out.mono ?_
  rintro e W1 ⟨rfl, hb1⟩
  have hIB := IsB.new W1
  have hB2 := (Below.refl W1.heap.size W1).alloc (Nat.le_refl _) (.cells #[.pointer none, .slice none 0 0] 77)
  have HB1 := Lib.hid hb1
  have HA1 := Lib.hid (HA.out.below hb1)
  clear hb1
  go_wp2_with fail
  generalize hW2 : W1.alloc (.cells #[.pointer none, .slice none 0 0] 77) = W2 at *
  clear hW2
  go_loopw [18] (fun i wr => ∃ k : Nat, i = .int .i64 (k : Int) ∧ k ≤ xs.length ∧ IsB wr W1.heap.size W1.heap.size (linesL (xs.take k)) ∧ Below W1.heap.size W1 wr) (fun i _ => xs.length - (intOf i).toNat)
  case atStart => exact ⟨0, rfl, Nat.zero_le _, hIB, hB2⟩
  case round =>
    obtain ⟨k, rfl, hk, hI, hB⟩ := hrel
    clear hIB hB2
    have hs1 := hB.size
    have HTK0 := HTK.out k
    by_cases hkl : k < xs.length
    · have hka : (k : Int) < (xs.length : Int) := by omega
      have hxe : xs[k]? = some xs[k] := List.getElem?_eq_getElem hkl
      have hmem : xs[k] ∈ xs := List.getElem_mem hkl
      obtain ⟨b, off, rfl, hbl, c0, c1, c2, c3⟩ := seen_at (HA1.out.below hB) hxe
      have hxv := HV.out _ hmem
      have hxm := HMY.out _ hmem
      have HLT := Lib.hid (lines_take hxe)
      have hll := line_len hxm hxv.1 hxv.2
      generalize xs[k] = x at *
      obtain ⟨p, q, c, v⟩ := x
      obtain ⟨q, rfl⟩ : ∃ n : Nat, q = n := ⟨q.toNat, by have := hxm.2.2.1; simp only at this; omega⟩
      obtain ⟨v, rfl⟩ : ∃ n : Nat, v = n := ⟨v.toNat, by have := hxv.1; simp only at this; omega⟩
      simp only at c0 c1 c2 c3
      have hvv : v < 4294967296 := by have := hxv.2; simp only at this; omega
      obtain ⟨sl, hsl⟩ : ∃ sl : ByteArray, sl = ⟨(lineL ⟨p, q, c, v⟩).toArray⟩ := ⟨_, rfl⟩
      have hsz : sl.size ≤ 200 := by rw [hsl]; show (lineL _).toArray.size ≤ _; simpa using hll
      have HL := Lib.hid (fun W (hW : Below W1.heap.size W1 W) => show Calls Tryd.prog 13 #[.agg #[.int .i64 p, .int .i64 q, .int .i64 c, .int .u32 v]] W fun e w' => e = .returned (.tuple #[.string sl, .int .i64 0]) ∧ Below W.heap.size W w' from by
        rw [hsl]
        exact line_yes ((HG.out.below HB1.out).below (hW.mono HB1.out.size |> fun h => by first | exact h | exact hW)) p c q v hvv hxm)
      have hb0 := (Below.refl wr.heap.size wr).alloc (Nat.le_refl _) (.cells #[.int .i64 p, .int .i64 q, .int .i64 c, .int .u32 v] 27)
      have hX := Blk.new wr 27 #[.int .i64 p, .int .i64 q, .int .i64 c, .int .u32 v]
      have hI0 := hI.below hb0
      have hB0 := bl_step hB hs1 hb0
      have HI := Lib.hid hI0
      have HSL := Lib.hid hsl
      clear hxe hmem hxv hxm hsl hI hI0 hll
      have hs2 := hB0.size
      go_wp2_with fail
      refine (HL.out _ hB0).mono ?_
      rintro e w3 ⟨rfl, hb3⟩
      have hB3 := bl_step hB0 hs2 hb3
      have HI3 := Lib.hid (HI.out.below hb3)
      have hs3 := hB3.size
      clear hb3
      go_wp2_with fail
      have happ : (sl ++ ⟨#[10]⟩ : ByteArray).data.toList = sl.data.toList ++ [10] := by rw [ByteArray.data_append]; simp
      have hsap : (sl ++ ⟨#[10]⟩ : ByteArray).size = sl.size + 1 := by rw [ByteArray.size_append]; rfl
      refine (writeString_any _ _ _ _ HI3.out (by rw [hsap]; omega) hs3).mono ?_
      rintro e w4 ⟨rfl, hI4, hb4, _⟩
      rw [happ] at hI4
      have HI4 := Lib.hid hI4
      have HB4 := Lib.hid (hB3.trans hb4)
      clear hI4 hb4 happ hsap
      go_wp2
      go_roundw
      case rel => exact ⟨k + 1, by go_num, by omega, by
        rw [HLT.out, List.append_assoc]
        have h := HI4.out
        rw [HSL.out] at h
        exact h, HB4.out⟩
      case measure => simp [intOf]; omega
    · have hkk : k = xs.length := by omega
      subst hkk
      rw [List.take_length] at hI
      have HS := Lib.hid (bstring_any _ _ _ hI hs1)
      have HBZ := Lib.hid (HB1.out.trans (hB.mono HB1.out.size))
      clear hI
      go_wp2_with fail
      refine HS.out.mono ?_
      rintro e w5 ⟨rfl, hb5⟩
      have HB5 := Lib.hid (HB1.out.trans ((hB.trans hb5).mono HB1.out.size))
      clear hb5
      go_wp2
      go_ret2
      exact ⟨rfl, HB5.out⟩
end Go.Proofs.YtpcaeggecojaeaaDoor
