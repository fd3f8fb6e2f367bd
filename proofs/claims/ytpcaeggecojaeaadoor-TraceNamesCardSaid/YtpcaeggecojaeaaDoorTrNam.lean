/-
  The law TraceNames, walked. Condition: the tables lie as the program's text, and the library's, lay them.
-/
import Derived.Test.YtpcaeggecojaeaaDoorTrBck
namespace Go.Proofs.YtpcaeggecojaeaaDoor
open Go.RowKit
set_option linter.unusedVariables false
set_option linter.unusedSimpArgs false

/-- What may not be. -/
def wrongL : List (List UInt8) := [[48, 32, 112, 114, 105, 110, 116, 32, 49], [49, 32, 115, 105, 103, 110, 97, 108, 32, 49, 54], [49, 32, 114, 101, 115, 117, 108, 116, 32, 50, 51, 32, 48], [49, 32, 112, 114, 105, 110, 116, 32, 48, 49], [49, 32, 112, 114, 105, 110, 116], [49, 32, 112, 114, 105, 110, 116, 32, 52, 50, 57, 52, 57, 54, 55, 50, 57, 54], [49, 32, 114, 101, 115, 117, 108, 116, 32, 53], [49, 32, 112, 114, 105, 110, 116, 32, 49, 32, 49], [], [49, 32, 102, 108, 121, 32, 49], [54, 53, 53, 51, 54, 32, 101, 120, 105, 116, 32, 48], [49, 32, 115, 105, 103, 110, 97, 108, 32, 48]]
theorem wrong_none : ∀ s ∈ wrongL, readL s = none := by
  have h : (wrongL.all fun s => decide (readF s = none)) = true := by decide
  intro s hs
  have := List.all_eq_true.1 h s hs
  rw [← readF_eq]
  exact of_decide_eq_true this
def a3 : List S := [⟨1, 2, 0, 0⟩, ⟨2, 2, 0, 0⟩, ⟨1, 4, 0, 0⟩]
def two1 : List UInt8 := [49, 32, 112, 114, 105, 110, 116, 32, 49, 10, 120, 10]
def one1 : List UInt8 := [49, 32, 112, 114, 105, 110, 116, 32, 49]
theorem lns_two : lns two1 = [[49, 32, 112, 114, 105, 110, 116, 32, 49, 10], [120, 10]] := by decide
theorem lns_one : lns one1 = [one1] := by decide
def lineF2 (l : List UInt8) : Option S := if endsL l then readF (trimL l) else none
theorem lineF2_eq (l : List UInt8) : lineF2 l = lineS l := by unfold lineF2 lineS; rw [readF_eq]
theorem two_a : lineS [49, 32, 112, 114, 105, 110, 116, 32, 49, 10] = some ⟨1, 2, 0, 1⟩ := by rw [← lineF2_eq]; decide
theorem two_b : lineS [120, 10] = none := by rw [← lineF2_eq]; decide
theorem one_a : lineS one1 = none := by rw [← lineF2_eq]; decide
theorem parse_two {w : World} (hG : Ground w) : Calls Tryd.prog 20 #[.string ⟨#[49, 32, 112, 114, 105, 110, 116, 32, 49, 10, 120, 10]⟩] w fun e w' => e = .returned (.tuple #[.slice none 0 0, .int .i64 2, .int .i64 210]) ∧ Below w.heap.size w w' :=
  (parse_any hG ⟨#[49, 32, 112, 114, 105, 110, 116, 32, 49, 10, 120, 10]⟩ (by decide)).mono fun e w' h => by
    have e : toL ⟨#[49, 32, 112, 114, 105, 110, 116, 32, 49, 10, 120, 10]⟩ = two1 := rfl
    rw [e] at h
    rcases h with ⟨v, acc, rfl, ho, hm, hl, hb⟩ | ⟨k, rfl, hk, ⟨acc, hacc⟩, ⟨x, hx, hbad⟩, hb⟩
    · exfalso
      rw [lns_two] at hm
      rcases acc with _ | ⟨a, _ | ⟨b, acc⟩⟩
      · simp at hm
      · simp at hm
      · simp only [List.map_cons, List.cons.injEq] at hm
        rw [two_b] at hm
        exact absurd hm.2.1 (by simp)
    · rw [lns_two] at hx hacc
      match k, hx, hbad with
      | 0, hx, hbad =>
        exfalso
        simp only [List.getElem?_cons_zero, Option.some.injEq] at hx
        subst hx
        rw [two_a] at hbad
        rcases hbad with h | h
        · cases h
        · omega
      | 1, _, _ => exact ⟨rfl, hb⟩
      | k + 2, hx, _ => simp at hx
theorem parse_one {w : World} (hG : Ground w) : Calls Tryd.prog 20 #[.string ⟨#[49, 32, 112, 114, 105, 110, 116, 32, 49]⟩] w fun e w' => e = .returned (.tuple #[.slice none 0 0, .int .i64 1, .int .i64 210]) ∧ Below w.heap.size w w' :=
  (parse_any hG ⟨#[49, 32, 112, 114, 105, 110, 116, 32, 49]⟩ (by decide)).mono fun e w' h => by
    have e : toL ⟨#[49, 32, 112, 114, 105, 110, 116, 32, 49]⟩ = one1 := rfl
    rw [e] at h
    rcases h with ⟨v, acc, rfl, ho, hm, hl, hb⟩ | ⟨k, rfl, hk, ⟨acc, hacc⟩, ⟨x, hx, hbad⟩, hb⟩
    · exfalso
      rw [lns_one] at hm
      rcases acc with _ | ⟨a, acc⟩
      · simp at hm
      · simp only [List.map_cons, List.cons.injEq] at hm
        rw [one_a] at hm
        exact absurd hm.1 (by simp)
    · rw [lns_one] at hx
      match k, hx with
      | 0, _ => exact ⟨rfl, hb⟩
      | k + 1, hx => simp at hx
def wrongA : Array Value := #[.string ⟨#[48, 32, 112, 114, 105, 110, 116, 32, 49]⟩, .string ⟨#[49, 32, 115, 105, 103, 110, 97, 108, 32, 49, 54]⟩, .string ⟨#[49, 32, 114, 101, 115, 117, 108, 116, 32, 50, 51, 32, 48]⟩, .string ⟨#[49, 32, 112, 114, 105, 110, 116, 32, 48, 49]⟩, .string ⟨#[49, 32, 112, 114, 105, 110, 116]⟩, .string ⟨#[49, 32, 112, 114, 105, 110, 116, 32, 52, 50, 57, 52, 57, 54, 55, 50, 57, 54]⟩, .string ⟨#[49, 32, 114, 101, 115, 117, 108, 116, 32, 53]⟩, .string ⟨#[49, 32, 112, 114, 105, 110, 116, 32, 49, 32, 49]⟩, .string ⟨#[]⟩, .string ⟨#[49, 32, 102, 108, 121, 32, 49]⟩, .string ⟨#[54, 53, 53, 51, 54, 32, 101, 120, 105, 116, 32, 48]⟩, .string ⟨#[49, 32, 115, 105, 103, 110, 97, 108, 32, 48]⟩]
theorem wrong_at {k : Nat} (hk : k < 12) : ∃ s : ByteArray, wrongA[k]? = some (.string s) ∧ readL s.data.toList = none ∧ s.size ≤ 1000000 := by
  have hl : wrongA = (wrongL.map fun l => .string ⟨l.toArray⟩).toArray := rfl
  have hlen : k < wrongL.length := hk
  have hm : wrongL[k] ∈ wrongL := List.getElem_mem hlen
  refine ⟨⟨wrongL[k].toArray⟩, ?_, wrong_none _ hm, ?_⟩
  · rw [hl, List.getElem?_toArray, List.getElem?_map, List.getElem?_eq_getElem hlen]
    rfl
  · have h : (wrongL.all fun s => decide (s.length ≤ 1000000)) = true := by decide
    have := of_decide_eq_true (List.all_eq_true.1 h _ hm)
    show wrongL[k].toArray.size ≤ _
    rw [List.size_toArray]
    exact this

theorem seen_blk {W : World} {g : Nat} {xs : List S} {cs : Array Value} (h : Blk W g 27 cs) (hc : cs = (xs.flatMap S.cells).toArray) (hl : xs.length ≤ maxLen) : SeenAt W (some ⟨g, 0, none⟩) xs := by
  have hcl : cs.size = xs.length * 4 := by rw [hc, List.size_toArray]; exact cells_len xs
  have ho : OwnS W 0 (.slice (some ⟨g, 0, none⟩) xs.length xs.length) xs := by
    refine ⟨cells_len xs, .inr ⟨g, xs.length, cs, rfl, Nat.zero_le _, h, Nat.le_refl _, hl, hcl, ?_⟩⟩
    rw [List.take_of_length_le (by rw [Array.length_toList, hcl]; exact Nat.le_refl _), hc]
  obtain ⟨A, c, e, hA, _⟩ := ownS_at ho
  injection e with e1 e2 e3
  rw [e1]
  exact hA
theorem int_blk {W : World} {g : Nat} {x : Int} (h : Blk W g 3 #[.int .i64 x]) : IntsAt W (some ⟨g, 0, none⟩) [x] := fun i r hr => by
  match i, hr with
  | 0, hr =>
    simp only [List.map_cons, List.map_nil, List.getElem?_cons_zero, Option.some.injEq] at hr
    subst hr
    refine ⟨g, 0, rfl, h.lt, fun j v hv => ?_⟩
    match j, hv with
    | 0, hv =>
      simp only [iCells, List.getElem?_cons_zero, Option.some.injEq] at hv
      subst hv
      exact h.cell 0
    | j + 1, hv => simp [iCells] at hv
  | i + 1, hr => simp at hr
theorem first_three : first a3 (a3.take 2) = 2 := by decide
theorem text_zero : textL [⟨0, 0, 0, 0⟩] = none := by decide
theorem makeOne (W : World) : (Instr.makeSlice 22 (.int .i64 1) (.int .i64 1)).run Tryd.prog W = .ok (.slice (some ⟨W.heap.size, 0, none⟩) 1 1) (W.alloc (.cells #[.int .i64 0, .int .i64 0, .int .i64 0, .int .u32 0] 27)) := by kernel_rfl

set_option maxRecDepth 100000 in
set_option maxHeartbeats 16000000 in
theorem namesLaw_any {w : World} (hG : Ground w) : Calls Tryd.prog 8 #[] w fun e w' => e = .returned (.bool true) ∧ Below w.heap.size w w' := by
  have HG := Lib.hid hG
  clear hG
  go_enter Tryd.func8, Tryd.ntmps8
  go_wp2_with fail
  have hW1 : Blk (w.alloc (.cells #[.string ⟨#[48, 32, 112, 114, 105, 110, 116, 32, 49]⟩, .string ⟨#[49, 32, 115, 105, 103, 110, 97, 108, 32, 49, 54]⟩, .string ⟨#[49, 32, 114, 101, 115, 117, 108, 116, 32, 50, 51, 32, 48]⟩, .string ⟨#[49, 32, 112, 114, 105, 110, 116, 32, 48, 49]⟩, .string ⟨#[49, 32, 112, 114, 105, 110, 116]⟩, .string ⟨#[49, 32, 112, 114, 105, 110, 116, 32, 52, 50, 57, 52, 57, 54, 55, 50, 57, 54]⟩, .string ⟨#[49, 32, 114, 101, 115, 117, 108, 116, 32, 53]⟩, .string ⟨#[49, 32, 112, 114, 105, 110, 116, 32, 49, 32, 49]⟩, .string ⟨#[]⟩, .string ⟨#[49, 32, 102, 108, 121, 32, 49]⟩, .string ⟨#[54, 53, 53, 51, 54, 32, 101, 120, 105, 116, 32, 48]⟩, .string ⟨#[49, 32, 115, 105, 103, 110, 97, 108, 32, 48]⟩] 9)) w.heap.size 9 wrongA := Blk.new w 9 wrongA
  have hb1 := (Below.refl w.heap.size w).alloc (Nat.le_refl _) (.cells #[.string ⟨#[48, 32, 112, 114, 105, 110, 116, 32, 49]⟩, .string ⟨#[49, 32, 115, 105, 103, 110, 97, 108, 32, 49, 54]⟩, .string ⟨#[49, 32, 114, 101, 115, 117, 108, 116, 32, 50, 51, 32, 48]⟩, .string ⟨#[49, 32, 112, 114, 105, 110, 116, 32, 48, 49]⟩, .string ⟨#[49, 32, 112, 114, 105, 110, 116]⟩, .string ⟨#[49, 32, 112, 114, 105, 110, 116, 32, 52, 50, 57, 52, 57, 54, 55, 50, 57, 54]⟩, .string ⟨#[49, 32, 114, 101, 115, 117, 108, 116, 32, 53]⟩, .string ⟨#[49, 32, 112, 114, 105, 110, 116, 32, 49, 32, 49]⟩, .string ⟨#[]⟩, .string ⟨#[49, 32, 102, 108, 121, 32, 49]⟩, .string ⟨#[54, 53, 53, 51, 54, 32, 101, 120, 105, 116, 32, 48]⟩, .string ⟨#[49, 32, 115, 105, 103, 110, 97, 108, 32, 48]⟩] 9)
  generalize w.alloc (.cells #[.string ⟨#[48, 32, 112, 114, 105, 110, 116, 32, 49]⟩, .string ⟨#[49, 32, 115, 105, 103, 110, 97, 108, 32, 49, 54]⟩, .string ⟨#[49, 32, 114, 101, 115, 117, 108, 116, 32, 50, 51, 32, 48]⟩, .string ⟨#[49, 32, 112, 114, 105, 110, 116, 32, 48, 49]⟩, .string ⟨#[49, 32, 112, 114, 105, 110, 116]⟩, .string ⟨#[49, 32, 112, 114, 105, 110, 116, 32, 52, 50, 57, 52, 57, 54, 55, 50, 57, 54]⟩, .string ⟨#[49, 32, 114, 101, 115, 117, 108, 116, 32, 53]⟩, .string ⟨#[49, 32, 112, 114, 105, 110, 116, 32, 49, 32, 49]⟩, .string ⟨#[]⟩, .string ⟨#[49, 32, 102, 108, 121, 32, 49]⟩, .string ⟨#[54, 53, 53, 51, 54, 32, 101, 120, 105, 116, 32, 48]⟩, .string ⟨#[49, 32, 115, 105, 103, 110, 97, 108, 32, 48]⟩] 9) = W1 at *
  have HW1 := Lib.hid hW1
  have HB1 := Lib.hid hb1
  clear hW1 hb1
  go_loopw [1, 17] (fun ok i wr => ok = .bool true ∧ ∃ k : Nat, i = .int .i64 (k : Int) ∧ k ≤ 12 ∧ Below w.heap.size w wr ∧ Hid (Blk wr w.heap.size 9 wrongA)) (fun _ i _ => 12 - (intOf i).toNat)
  case atStart => exact ⟨rfl, 0, rfl, Nat.zero_le _, HB1.out, HW1⟩
  case round =>
    obtain ⟨rfl, k, rfl, hk, hB, hI⟩ := hrel
    clear HB1 HW1
    by_cases hk12 : k < 12
    · have hka : (k : Int) < 12 := by omega
      obtain ⟨s, hs, hrn, hsz⟩ := wrong_at hk12
      have c0 : wr.cell? ⟨w.heap.size, k, none⟩ = some (.string s) := (hI.out.cell k).trans hs
      have hlt := hI.out.lt
      have HR := Lib.hid (show Calls Tryd.prog 16 #[.string s] wr fun e w' => e = .returned (.tuple #[.agg #[.int .i64 0, .int .i64 0, .int .i64 0, .int .u32 0], .int .i64 210]) ∧ Below wr.heap.size wr w' from by
        have h := read_any (HG.out.below hB) s hsz
        rw [hrn] at h
        exact h)
      clear hs hrn hsz
      go_wp2_with fail
      refine HR.out.mono ?_
      rintro e w3 ⟨rfl, hb3⟩
      have HB3 := Lib.hid (bl_step hB hB.size hb3)
      have HI3 := Lib.hid (hI.out.below hb3 hI.out.lt)
      clear hb3 HR
      go_wp2
      go_roundw
      case rel => exact ⟨rfl, k + 1, by go_num, by omega, HB3.out.alloc HB3.out.size _, HI3.out.alloc _⟩
      case measure => simp [intOf]; omega
    · have hkk : ¬ (k : Int) < 12 := by omega
      go_wp2_with fail
      have hX := Blk.new wr 27 #[.int .i64 1, .int .i64 2, .int .i64 0, .int .u32 0, .int .i64 2, .int .i64 2, .int .i64 0, .int .u32 0, .int .i64 1, .int .i64 4, .int .i64 0, .int .u32 0]
      have hb2 := hB.alloc hB.size (.cells #[.int .i64 1, .int .i64 2, .int .i64 0, .int .u32 0, .int .i64 2, .int .i64 2, .int .i64 0, .int .u32 0, .int .i64 1, .int .i64 4, .int .i64 0, .int .u32 0] 27)
      have hs2 := hB.size
      generalize wr.alloc (.cells #[.int .i64 1, .int .i64 2, .int .i64 0, .int .u32 0, .int .i64 2, .int .i64 2, .int .i64 0, .int .u32 0, .int .i64 1, .int .i64 4, .int .i64 0, .int .u32 0] 27) = W2 at *
      generalize wr.heap.size = ga at *
      have HX2 := Lib.hid hX
      have HB2 := Lib.hid hb2
      clear hX hb2 hI hB
      go_wp2_with fail
      refine (parse_two (HG.out.below HB2.out)).mono ?_
      rintro e W3 ⟨rfl, hb3⟩
      have HB3 := Lib.hid (bl_step HB2.out HB2.out.size hb3)
      have HX3 := Lib.hid (HX2.out.below hb3 HX2.out.lt)
      clear hb3 HB2 HX2
      go_wp2_with fail
      refine (parse_one (HG.out.below HB3.out)).mono ?_
      rintro e W4 ⟨rfl, hb4⟩
      have HB4 := Lib.hid (bl_step HB3.out HB3.out.size hb4)
      have HX4 := Lib.hid (HX3.out.below hb4 HX3.out.lt)
      clear hb4 HB3 HX3
      have hmk := makeOne
      go_wp2_with fail
      have HZ5 := Lib.hid (seen_blk (xs := [⟨0, 0, 0, 0⟩]) (Blk.new W4 27 #[.int .i64 0, .int .i64 0, .int .i64 0, .int .u32 0]) rfl (by decide))
      have HX5 := Lib.hid (HX4.out.alloc (.cells #[.int .i64 0, .int .i64 0, .int .i64 0, .int .u32 0] 27))
      have HB5 := Lib.hid (HB4.out.alloc HB4.out.size (.cells #[.int .i64 0, .int .i64 0, .int .i64 0, .int .u32 0] 27))
      generalize W4.alloc (.cells #[.int .i64 0, .int .i64 0, .int .i64 0, .int .u32 0] 27) = W5 at *
      generalize W4.heap.size = gz at *
      have HT5 := Lib.hid (show Calls Tryd.prog 18 #[.slice (some ⟨gz, 0, none⟩) 1 1] W5 fun e w' => e = .returned (.tuple #[.string ⟨#[]⟩, .int .i64 210]) ∧ Below W5.heap.size W5 w' from by
        have h := text_any (HG.out.below HB5.out) (some ⟨gz, 0, none⟩) 1 [⟨0, 0, 0, 0⟩] (by decide) HZ5.out (fun x hx => by simp at hx; subst hx; decide)
        rw [text_zero] at h
        exact h)
      clear HB4 HX4 hmk HZ5
      go_wp2_with fail
      refine HT5.out.mono ?_
      rintro e W6 ⟨rfl, hb6⟩
      have HB6 := Lib.hid (bl_step HB5.out HB5.out.size hb6)
      have HX6 := Lib.hid (HX5.out.below hb6 HX5.out.lt)
      clear hb6 HB5 HX5 HT5
      go_wp2_with fail
      refine (alive_any (HG.out.below HB6.out)).mono ?_
      rintro e W7 ⟨rfl, hb7⟩
      have HB7 := Lib.hid (bl_step HB6.out HB6.out.size hb7)
      have HX7 := Lib.hid (HX6.out.below hb7 HX6.out.lt)
      clear hb7 HB6 HX6
      have HF1 := Lib.hid (show Calls Tryd.prog 10 #[.slice (some ⟨ga, 0, none⟩) 3 3, .slice (some ⟨ga, 0, none⟩) 2 3] W7 fun e w' => e = .returned (.int .i64 2) ∧ Below W7.heap.size W7 w' from by
        have hs : SeenAt W7 (some ⟨ga, 0, none⟩) a3 := seen_blk HX7.out rfl (by decide)
        have h := first_any (some ⟨ga, 0, none⟩) (some ⟨ga, 0, none⟩) 3 3 a3 (a3.take 2) hs (fun i r hr => hs i r (by
          rw [List.map_take, List.getElem?_take] at hr
          split at hr
          · exact hr
          · cases hr)) (by decide) (by decide)
        rw [first_three] at h
        exact h)
      go_wp2_with fail
      refine HF1.out.mono ?_
      rintro e W8 ⟨rfl, hb8⟩
      have HB8 := Lib.hid (bl_step HB7.out HB7.out.size hb8)
      have HX8 := Lib.hid (HX7.out.below hb8 HX7.out.lt)
      clear hb8 HB7 HX7 HF1
      have HF2 := Lib.hid (show Calls Tryd.prog 10 #[.slice (some ⟨ga, 0, none⟩) 3 3, .slice (some ⟨ga, 0, none⟩) 3 3] W8 fun e w' => e = .returned (.int .i64 (-1)) ∧ Below W8.heap.size W8 w' from by
        have hs : SeenAt W8 (some ⟨ga, 0, none⟩) a3 := seen_blk HX8.out rfl (by decide)
        have h := first_any (some ⟨ga, 0, none⟩) (some ⟨ga, 0, none⟩) 3 3 a3 a3 hs hs (by decide) (by decide)
        rw [first_self] at h
        exact h)
      go_wp2_with fail
      refine HF2.out.mono ?_
      rintro e W9 ⟨rfl, hb9⟩
      have HB9 := Lib.hid (bl_step HB8.out HB8.out.size hb9)
      have HX9 := Lib.hid (HX8.out.below hb9 HX8.out.lt)
      clear hb9 HB8 HX8 HF2
      go_wp2_with fail
      have HI5 := Lib.hid (int_blk (Blk.new W9 3 #[.int .i64 1]))
      have HX5 := Lib.hid (HX9.out.alloc (.cells #[.int .i64 1] 3))
      have HB5 := Lib.hid (HB9.out.alloc HB9.out.size (.cells #[.int .i64 1] 3))
      generalize W9.alloc (.cells #[.int .i64 1] 3) = V1 at *
      generalize W9.heap.size = gi at *
      have HO1 := Lib.hid (show Calls Tryd.prog 12 #[.slice (some ⟨ga, 0, none⟩) 3 3, .slice (some ⟨gi, 0, none⟩) 1 1] V1 fun e w' => ∃ E ce, e = .returned (.slice E 2 ce) ∧ Below V1.heap.size V1 w' from
        (of_any (some ⟨ga, 0, none⟩) (some ⟨gi, 0, none⟩) 3 1 a3 [1] (seen_blk HX5.out rfl (by decide)) HI5.out (by decide) (by decide)).mono fun e w' ⟨v, he, hv, hb⟩ => by
          obtain ⟨E, ce, rfl, _, _⟩ := ownS_at hv
          exact ⟨E, ce, he, hb⟩)
      clear HB9 HX9 HI5
      go_wp2_with fail
      refine HO1.out.mono ?_
      rintro e V2 ⟨E, ce, rfl, hb2⟩
      have HB2 := Lib.hid (bl_step HB5.out HB5.out.size hb2)
      have HX2 := Lib.hid (HX5.out.below hb2 HX5.out.lt)
      clear hb2 HB5 HX5 HO1
      have HO2 := Lib.hid (show Calls Tryd.prog 12 #[.slice (some ⟨ga, 0, none⟩) 3 3, .slice none 0 0] V2 fun e w' => ∃ E ce, e = .returned (.slice E 0 ce) ∧ Below V2.heap.size V2 w' from
        (of_any (some ⟨ga, 0, none⟩) none 3 0 a3 [] (seen_blk HX2.out rfl (by decide)) (RowsAt.nil _ _ _) (by decide) (by decide)).mono fun e w' ⟨v, he, hv, hb⟩ => by
          obtain ⟨E, ce, rfl, _, _⟩ := ownS_at hv
          exact ⟨E, ce, he, hb⟩)
      go_wp2_with fail
      refine HO2.out.mono ?_
      rintro e V3 ⟨E', ce', rfl, hb3⟩
      have HB3 := Lib.hid (bl_step HB2.out HB2.out.size hb3)
      clear hb3 HB2 HX2 HO2
      go_wp2
      go_ret
      exact ⟨by first | rfl | simp, HB3.out⟩
end Go.Proofs.YtpcaeggecojaeaaDoor
