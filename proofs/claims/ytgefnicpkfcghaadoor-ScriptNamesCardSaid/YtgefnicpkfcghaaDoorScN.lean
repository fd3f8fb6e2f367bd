/-
  The law ScriptNames, walked. Condition: the tables lie as the program's text, and the library's, lay them.
-/
import Derived.Test.YtgefnicpkfcghaaDoorScK
import Derived.Test.YtgefnicpkfcghaaDoorScA
import Derived.Test.YtgefnicpkfcghaaDoorScU
namespace Go.Proofs.YtgefnicpkfcghaaDoor
open Go.RowKit
set_option linter.unusedVariables false
set_option linter.unusedSimpArgs false

def readF (s : List UInt8) : Option O := match candS (pieces s) (kindOf s) (partsL (kindOf s)) with
  | none => none
  | some (y, _) => if MayO y ∧ lineF y = s then some y else none
theorem readF_eq (s : List UInt8) : readF s = readO s := by
  unfold readF readO
  cases hc : candS (pieces s) (kindOf s) (partsL (kindOf s)) with
  | none => rfl
  | some st =>
    obtain ⟨y, n⟩ := st
    have hr : RangeO y := cand_range (k := kindOf s) _ parts_kind _ (fun y n e => by injection e with e; injection e with e1 e2; rw [← e1]; exact zero_range _) y n hc
    simp only [lineF_eq hr]
/-- What may not be. -/
def wrongL : List (List UInt8) := [[115, 116, 101, 112, 32, 56, 32, 48], [115, 105, 103, 110, 97, 108, 32, 49, 32, 49, 54], [114, 101, 115, 116, 111, 114, 101, 32, 65, 32, 49], [116, 105, 99, 107, 32, 49], [114, 117, 110, 32, 48, 32, 48], [114, 117, 110, 32, 48, 32, 54, 53, 53, 51, 54], [114, 101, 115, 116, 111, 114, 101, 32, 97, 32, 50, 53, 54], [99, 104, 101, 99, 107, 112, 111, 105, 110, 116, 32, 49], [99, 104, 101, 99, 107, 112, 111, 105, 110, 116, 32, 49, 32], [97, 98, 111, 114, 116, 32], [], [32, 116, 105, 99, 107], [115, 116, 101, 112, 32, 48, 32, 48, 48], [102, 108, 121], [109, 105, 103, 114, 97, 116, 101, 32, 49, 32, 45, 49], [114, 101, 115, 116, 111, 114, 101, 32, 97, 98, 99, 100, 101, 102, 103, 104, 105, 106, 107, 108, 109, 110, 111, 112, 113, 32, 49]]
set_option maxRecDepth 100000 in
theorem wrong_none : ∀ s ∈ wrongL, readO s = none := by
  have h : (wrongL.all fun s => decide (readF s = none)) = true := by decide
  intro s hs
  have := List.all_eq_true.1 h s hs
  rw [← readF_eq]
  exact of_decide_eq_true this
def two1 : List UInt8 := [116, 105, 99, 107, 10, 102, 108, 121, 10]
def one1 : List UInt8 := [116, 105, 99, 107]
theorem lns_two : lns two1 = [[116, 105, 99, 107, 10], [102, 108, 121, 10]] := by decide
theorem lns_one : lns one1 = [one1] := by decide
def lineF2 (l : List UInt8) : Option O := if endsL l then readF (trimL l) else none
theorem lineF2_eq (l : List UInt8) : lineF2 l = lineS l := by unfold lineF2 lineS; rw [readF_eq]
theorem two_a : lineS [116, 105, 99, 107, 10] = some ⟨3, 0, 0, 0, 0, 0, ⟨#[]⟩⟩ := by rw [← lineF2_eq]; decide
theorem two_b : lineS [102, 108, 121, 10] = none := by rw [← lineF2_eq]; decide
theorem one_a : lineS one1 = none := by rw [← lineF2_eq]; decide
theorem parse_two {w : World} (hG : Ground w) : Calls Tryd.prog 19 #[.string ⟨#[116, 105, 99, 107, 10, 102, 108, 121, 10]⟩] w fun e w' => e = .returned (.tuple #[.slice none 0 0, .int .i64 2, .int .i64 200]) ∧ Below w.heap.size w w' :=
  (parse_any hG ⟨#[116, 105, 99, 107, 10, 102, 108, 121, 10]⟩ (by decide)).mono fun e w' h => by
    have e : toL ⟨#[116, 105, 99, 107, 10, 102, 108, 121, 10]⟩ = two1 := rfl
    rw [e] at h
    rcases h with ⟨v, acc, rfl, ho, hm, hl, hb⟩ | ⟨k, rfl, hk, ⟨acc, hacc⟩, ⟨x, hx, hbad⟩, hb⟩
    · exfalso
      rw [lns_two] at hm
      rcases acc with _ | ⟨a, _ | ⟨b, acc⟩⟩
      · simp at hm
      · simp at hm
      · simp only [List.map_cons, List.cons.injEq] at hm
        rw [two_b] at hm
        exact absurd hm.2.1 (by simp)
    · rw [lns_two] at hx hacc
      match k, hx, hbad with
      | 0, hx, hbad =>
        exfalso
        simp only [List.getElem?_cons_zero, Option.some.injEq] at hx
        subst hx
        rw [two_a] at hbad
        rcases hbad with h | h
        · cases h
        · omega
      | 1, _, _ => exact ⟨rfl, hb⟩
      | k + 2, hx, _ => simp at hx
theorem parse_one {w : World} (hG : Ground w) : Calls Tryd.prog 19 #[.string ⟨#[116, 105, 99, 107]⟩] w fun e w' => e = .returned (.tuple #[.slice none 0 0, .int .i64 1, .int .i64 200]) ∧ Below w.heap.size w w' :=
  (parse_any hG ⟨#[116, 105, 99, 107]⟩ (by decide)).mono fun e w' h => by
    have e : toL ⟨#[116, 105, 99, 107]⟩ = one1 := rfl
    rw [e] at h
    rcases h with ⟨v, acc, rfl, ho, hm, hl, hb⟩ | ⟨k, rfl, hk, ⟨acc, hacc⟩, ⟨x, hx, hbad⟩, hb⟩
    · exfalso
      rw [lns_one] at hm
      rcases acc with _ | ⟨a, acc⟩
      · simp at hm
      · simp only [List.map_cons, List.cons.injEq] at hm
        rw [one_a] at hm
        exact absurd hm.1 (by simp)
    · rw [lns_one] at hx
      match k, hx with
      | 0, _ => exact ⟨rfl, hb⟩
      | k + 1, hx => simp at hx
def wrongA : Array Value := #[.string ⟨#[115, 116, 101, 112, 32, 56, 32, 48]⟩, .string ⟨#[115, 105, 103, 110, 97, 108, 32, 49, 32, 49, 54]⟩, .string ⟨#[114, 101, 115, 116, 111, 114, 101, 32, 65, 32, 49]⟩, .string ⟨#[116, 105, 99, 107, 32, 49]⟩, .string ⟨#[114, 117, 110, 32, 48, 32, 48]⟩, .string ⟨#[114, 117, 110, 32, 48, 32, 54, 53, 53, 51, 54]⟩, .string ⟨#[114, 101, 115, 116, 111, 114, 101, 32, 97, 32, 50, 53, 54]⟩, .string ⟨#[99, 104, 101, 99, 107, 112, 111, 105, 110, 116, 32, 49]⟩, .string ⟨#[99, 104, 101, 99, 107, 112, 111, 105, 110, 116, 32, 49, 32]⟩, .string ⟨#[97, 98, 111, 114, 116, 32]⟩, .string ⟨#[]⟩, .string ⟨#[32, 116, 105, 99, 107]⟩, .string ⟨#[115, 116, 101, 112, 32, 48, 32, 48, 48]⟩, .string ⟨#[102, 108, 121]⟩, .string ⟨#[109, 105, 103, 114, 97, 116, 101, 32, 49, 32, 45, 49]⟩, .string ⟨#[114, 101, 115, 116, 111, 114, 101, 32, 97, 98, 99, 100, 101, 102, 103, 104, 105, 106, 107, 108, 109, 110, 111, 112, 113, 32, 49]⟩]
theorem wrong_at {k : Nat} (hk : k < 16) : ∃ s : ByteArray, wrongA[k]? = some (.string s) ∧ readO s.data.toList = none ∧ s.size ≤ 1000000 := by
  have hl : wrongA = (wrongL.map fun l => .string ⟨l.toArray⟩).toArray := rfl
  have hlen : k < wrongL.length := hk
  have hm : wrongL[k] ∈ wrongL := List.getElem_mem hlen
  refine ⟨⟨wrongL[k].toArray⟩, ?_, wrong_none _ hm, ?_⟩
  · rw [hl, List.getElem?_toArray, List.getElem?_map, List.getElem?_eq_getElem hlen]
    rfl
  · have h : (wrongL.all fun s => decide (s.length ≤ 1000000)) = true := by decide
    have := of_decide_eq_true (List.all_eq_true.1 h _ hm)
    show wrongL[k].toArray.size ≤ _
    rw [List.size_toArray]
    exact this
theorem ops_blk {W : World} {g : Nat} {xs : List O} {cs : Array Value} (h : Blk W g 24 cs) (hc : cs = (xs.flatMap O.cells).toArray) (hl : xs.length ≤ maxLen) : OpsAt W (some ⟨g, 0, none⟩) xs := by
  have hcl : cs.size = xs.length * 7 := by rw [hc, List.size_toArray]; exact cells_len xs
  have ho : OwnO W 0 (.slice (some ⟨g, 0, none⟩) xs.length xs.length) xs := by
    refine ⟨cells_len xs, .inr ⟨g, xs.length, cs, rfl, Nat.zero_le _, h, Nat.le_refl _, hl, hcl, ?_⟩⟩
    rw [List.take_of_length_le (by rw [Array.length_toList, hcl]; exact Nat.le_refl _), hc]
  obtain ⟨A, c, e, hA, _⟩ := ownO_at ho
  injection e with e1 e2 e3
  rw [e1]
  exact hA
theorem bytes_blk {W : World} {g : Nat} {xs : List UInt8} {cs : Array Value} {t : TypeId} (h : Blk W g t cs) (hc : cs = (xs.flatMap bCell).toArray) : BytesAt W (some ⟨g, 0, none⟩) xs := by
  intro i r hr
  rw [List.getElem?_map] at hr
  cases hx : xs[i]? with
  | none => rw [hx] at hr; cases hr
  | some x =>
    rw [hx] at hr
    injection hr with hr
    subst hr
    refine ⟨g, 0, rfl, h.lt, fun j v hv => ?_⟩
    have hj := (List.getElem?_eq_some_iff.1 hv).1
    have hj0 : j = 0 := by simpa [bCell] using hj
    subst hj0
    have e : xs.flatMap bCell = xs.map fun b => .int .u8 (b.toNat : Int) := by
      clear hx h hc hv hj
      induction xs with
      | nil => rfl
      | cons y ys ih => rw [List.flatMap_cons, ih]; rfl
    rw [h.cell, hc, e, List.getElem?_toArray, show 0 + i * 1 + 0 = i from by omega, List.getElem?_map, hx]
    simpa [bCell] using hv
theorem of_nine : ofL [0, 9, 200, 0, 7, 1, 0, 255, 3] = [⟨1, 1, 200, 0, 0, 0, ⟨#[]⟩⟩, ⟨8, 0, 0, 0, 0, 255, ⟨#[98]⟩⟩] := by decide
theorem text_zero : textL [⟨0, 0, 0, 0, 0, 0, ⟨#[]⟩⟩] = none := by decide
theorem makeOne (W : World) : (Instr.makeSlice 37 (.int .i64 1) (.int .i64 1)).run Tryd.prog W = .ok (.slice (some ⟨W.heap.size, 0, none⟩) 1 1) (W.alloc (.cells #[.int .i64 0, .int .i64 0, .int .i64 0, .int .i64 0, .int .i64 0, .int .u32 0, .string ⟨#[]⟩] 24)) := by kernel_rfl

set_option maxRecDepth 100000 in
set_option maxHeartbeats 16000000 in
theorem namesLaw_any {w : World} (hG : Ground w) : Calls Tryd.prog 7 #[] w fun e w' => e = .returned (.bool true) ∧ Below w.heap.size w w' := by
  have HG := Lib.hid hG
  clear hG
  have HN0 := Lib.hid (fun W (hW : Below w.heap.size w W) => show Calls Tryd.prog 15 #[.int .i64 0] W fun e w' => e = .returned (.string ⟨#[]⟩) ∧ w' = W from name_any (HG.out.below hW).words 0)
  have HN13 := Lib.hid (fun W (hW : Below w.heap.size w W) => show Calls Tryd.prog 15 #[.int .i64 13] W fun e w' => e = .returned (.string ⟨#[]⟩) ∧ w' = W from name_any (HG.out.below hW).words 13)
  go_enter Tryd.func7, Tryd.ntmps7
  go_wp2_with fail
  have hW1 : Blk (w.alloc (.cells #[.string ⟨#[115, 116, 101, 112, 32, 56, 32, 48]⟩, .string ⟨#[115, 105, 103, 110, 97, 108, 32, 49, 32, 49, 54]⟩, .string ⟨#[114, 101, 115, 116, 111, 114, 101, 32, 65, 32, 49]⟩, .string ⟨#[116, 105, 99, 107, 32, 49]⟩, .string ⟨#[114, 117, 110, 32, 48, 32, 48]⟩, .string ⟨#[114, 117, 110, 32, 48, 32, 54, 53, 53, 51, 54]⟩, .string ⟨#[114, 101, 115, 116, 111, 114, 101, 32, 97, 32, 50, 53, 54]⟩, .string ⟨#[99, 104, 101, 99, 107, 112, 111, 105, 110, 116, 32, 49]⟩, .string ⟨#[99, 104, 101, 99, 107, 112, 111, 105, 110, 116, 32, 49, 32]⟩, .string ⟨#[97, 98, 111, 114, 116, 32]⟩, .string ⟨#[]⟩, .string ⟨#[32, 116, 105, 99, 107]⟩, .string ⟨#[115, 116, 101, 112, 32, 48, 32, 48, 48]⟩, .string ⟨#[102, 108, 121]⟩, .string ⟨#[109, 105, 103, 114, 97, 116, 101, 32, 49, 32, 45, 49]⟩, .string ⟨#[114, 101, 115, 116, 111, 114, 101, 32, 97, 98, 99, 100, 101, 102, 103, 104, 105, 106, 107, 108, 109, 110, 111, 112, 113, 32, 49]⟩] 9)) w.heap.size 9 wrongA := Blk.new w 9 #[.string ⟨#[115, 116, 101, 112, 32, 56, 32, 48]⟩, .string ⟨#[115, 105, 103, 110, 97, 108, 32, 49, 32, 49, 54]⟩, .string ⟨#[114, 101, 115, 116, 111, 114, 101, 32, 65, 32, 49]⟩, .string ⟨#[116, 105, 99, 107, 32, 49]⟩, .string ⟨#[114, 117, 110, 32, 48, 32, 48]⟩, .string ⟨#[114, 117, 110, 32, 48, 32, 54, 53, 53, 51, 54]⟩, .string ⟨#[114, 101, 115, 116, 111, 114, 101, 32, 97, 32, 50, 53, 54]⟩, .string ⟨#[99, 104, 101, 99, 107, 112, 111, 105, 110, 116, 32, 49]⟩, .string ⟨#[99, 104, 101, 99, 107, 112, 111, 105, 110, 116, 32, 49, 32]⟩, .string ⟨#[97, 98, 111, 114, 116, 32]⟩, .string ⟨#[]⟩, .string ⟨#[32, 116, 105, 99, 107]⟩, .string ⟨#[115, 116, 101, 112, 32, 48, 32, 48, 48]⟩, .string ⟨#[102, 108, 121]⟩, .string ⟨#[109, 105, 103, 114, 97, 116, 101, 32, 49, 32, 45, 49]⟩, .string ⟨#[114, 101, 115, 116, 111, 114, 101, 32, 97, 98, 99, 100, 101, 102, 103, 104, 105, 106, 107, 108, 109, 110, 111, 112, 113, 32, 49]⟩]
  have hb1 := (Below.refl w.heap.size w).alloc (Nat.le_refl _) (.cells #[.string ⟨#[115, 116, 101, 112, 32, 56, 32, 48]⟩, .string ⟨#[115, 105, 103, 110, 97, 108, 32, 49, 32, 49, 54]⟩, .string ⟨#[114, 101, 115, 116, 111, 114, 101, 32, 65, 32, 49]⟩, .string ⟨#[116, 105, 99, 107, 32, 49]⟩, .string ⟨#[114, 117, 110, 32, 48, 32, 48]⟩, .string ⟨#[114, 117, 110, 32, 48, 32, 54, 53, 53, 51, 54]⟩, .string ⟨#[114, 101, 115, 116, 111, 114, 101, 32, 97, 32, 50, 53, 54]⟩, .string ⟨#[99, 104, 101, 99, 107, 112, 111, 105, 110, 116, 32, 49]⟩, .string ⟨#[99, 104, 101, 99, 107, 112, 111, 105, 110, 116, 32, 49, 32]⟩, .string ⟨#[97, 98, 111, 114, 116, 32]⟩, .string ⟨#[]⟩, .string ⟨#[32, 116, 105, 99, 107]⟩, .string ⟨#[115, 116, 101, 112, 32, 48, 32, 48, 48]⟩, .string ⟨#[102, 108, 121]⟩, .string ⟨#[109, 105, 103, 114, 97, 116, 101, 32, 49, 32, 45, 49]⟩, .string ⟨#[114, 101, 115, 116, 111, 114, 101, 32, 97, 98, 99, 100, 101, 102, 103, 104, 105, 106, 107, 108, 109, 110, 111, 112, 113, 32, 49]⟩] 9)
  generalize w.alloc (.cells #[.string ⟨#[115, 116, 101, 112, 32, 56, 32, 48]⟩, .string ⟨#[115, 105, 103, 110, 97, 108, 32, 49, 32, 49, 54]⟩, .string ⟨#[114, 101, 115, 116, 111, 114, 101, 32, 65, 32, 49]⟩, .string ⟨#[116, 105, 99, 107, 32, 49]⟩, .string ⟨#[114, 117, 110, 32, 48, 32, 48]⟩, .string ⟨#[114, 117, 110, 32, 48, 32, 54, 53, 53, 51, 54]⟩, .string ⟨#[114, 101, 115, 116, 111, 114, 101, 32, 97, 32, 50, 53, 54]⟩, .string ⟨#[99, 104, 101, 99, 107, 112, 111, 105, 110, 116, 32, 49]⟩, .string ⟨#[99, 104, 101, 99, 107, 112, 111, 105, 110, 116, 32, 49, 32]⟩, .string ⟨#[97, 98, 111, 114, 116, 32]⟩, .string ⟨#[]⟩, .string ⟨#[32, 116, 105, 99, 107]⟩, .string ⟨#[115, 116, 101, 112, 32, 48, 32, 48, 48]⟩, .string ⟨#[102, 108, 121]⟩, .string ⟨#[109, 105, 103, 114, 97, 116, 101, 32, 49, 32, 45, 49]⟩, .string ⟨#[114, 101, 115, 116, 111, 114, 101, 32, 97, 98, 99, 100, 101, 102, 103, 104, 105, 106, 107, 108, 109, 110, 111, 112, 113, 32, 49]⟩] 9) = W1 at *
  have HW1 := Lib.hid hW1
  have HB1 := Lib.hid hb1
  clear hW1 hb1
  go_loopw [1, 17] (fun ok i wr => ok = .bool true ∧ ∃ k : Nat, i = .int .i64 (k : Int) ∧ k ≤ 16 ∧ Below w.heap.size w wr ∧ Hid (Blk wr w.heap.size 9 wrongA)) (fun _ i _ => 16 - (intOf i).toNat)
  case atStart => exact ⟨rfl, 0, rfl, Nat.zero_le _, HB1.out, HW1⟩
  case round =>
    obtain ⟨rfl, k, rfl, hk, hB, hI⟩ := hrel
    clear HB1 HW1
    by_cases hk12 : k < 16
    · have hka : (k : Int) < 16 := by omega
      obtain ⟨s, hs, hrn, hsz⟩ := wrong_at hk12
      have c0 : wr.cell? ⟨w.heap.size, k, none⟩ = some (.string s) := (hI.out.cell k).trans hs
      have hlt := hI.out.lt
      have HR := Lib.hid (show Calls Tryd.prog 12 #[.string s] wr fun e w' => e = .returned (.tuple #[.agg #[.int .i64 0, .int .i64 0, .int .i64 0, .int .i64 0, .int .i64 0, .int .u32 0, .string ⟨#[]⟩], .int .i64 200]) ∧ Below wr.heap.size wr w' from by
        have h := read_any (HG.out.below hB) s hsz
        rw [hrn] at h
        exact h)
      clear hs hrn hsz
      go_wp2_with fail
      refine HR.out.mono ?_
      rintro e w3 ⟨rfl, hb3⟩
      have HB3 := Lib.hid (bl_step hB hB.size hb3)
      have HI3 := Lib.hid (hI.out.below hb3 hI.out.lt)
      clear hb3 HR
      go_wp2
      go_roundw
      case rel => exact ⟨rfl, k + 1, by go_num, by omega, HB3.out.alloc HB3.out.size _, HI3.out.alloc _⟩
      case measure => simp [intOf]; omega
    · have hkk : ¬ (k : Int) < 16 := by omega
      go_wp2_with fail
      have hX := Blk.new wr 5 #[.int .u8 0, .int .u8 9, .int .u8 200, .int .u8 0, .int .u8 7, .int .u8 1, .int .u8 0, .int .u8 255, .int .u8 3]
      have hb2 := hB.alloc hB.size (.cells #[.int .u8 0, .int .u8 9, .int .u8 200, .int .u8 0, .int .u8 7, .int .u8 1, .int .u8 0, .int .u8 255, .int .u8 3] 5)
      generalize wr.alloc (.cells #[.int .u8 0, .int .u8 9, .int .u8 200, .int .u8 0, .int .u8 7, .int .u8 1, .int .u8 0, .int .u8 255, .int .u8 3] 5) = W2 at *
      generalize wr.heap.size = ga at *
      have HB2 := Lib.hid hb2
      have HO2 := Lib.hid (show Calls Tryd.prog 24 #[.slice (some ⟨ga, 0, none⟩) 9 9] W2 fun e w' => ∃ v, e = .returned v ∧ OwnO w' W2.heap.size v (ofL [0, 9, 200, 0, 7, 1, 0, 255, 3]) ∧ Below W2.heap.size W2 w' from
        ofs_any (some ⟨ga, 0, none⟩) [0, 9, 200, 0, 7, 1, 0, 255, 3] 9 (by decide) (by decide) (by decide) (bytes_blk hX rfl))
      clear hX hb2 hI hB
      go_wp2_with fail
      refine HO2.out.mono ?_
      rintro e W3 ⟨v, rfl, ho, hb3⟩
      rw [of_nine] at ho
      obtain ⟨E, ce, rfl, hE, _⟩ := ownO_at ho
      have HB3 := Lib.hid (bl_step HB2.out HB2.out.size hb3)
      have HE3 := Lib.hid hE
      clear ho hE hb3 HB2 HO2
      go_wp2_with fail
      refine (parse_two (HG.out.below HB3.out)).mono ?_
      rintro e W4 ⟨rfl, hb4⟩
      have HB4 := Lib.hid (bl_step HB3.out HB3.out.size hb4)
      have HE4 := Lib.hid (HE3.out.below hb4)
      clear hb4 HB3 HE3
      go_wp2_with fail
      refine (parse_one (HG.out.below HB4.out)).mono ?_
      rintro e W5 ⟨rfl, hb5⟩
      have HB5 := Lib.hid (bl_step HB4.out HB4.out.size hb5)
      have HE5 := Lib.hid (HE4.out.below hb5)
      clear hb5 HB4 HE4
      have hmk := makeOne
      go_wp2_with fail
      have HZ6 := Lib.hid (ops_blk (xs := [⟨0, 0, 0, 0, 0, 0, ⟨#[]⟩⟩]) (Blk.new W5 24 #[.int .i64 0, .int .i64 0, .int .i64 0, .int .i64 0, .int .i64 0, .int .u32 0, .string ⟨#[]⟩]) rfl (by decide))
      have HE6 := Lib.hid (HE5.out.alloc (.cells #[.int .i64 0, .int .i64 0, .int .i64 0, .int .i64 0, .int .i64 0, .int .u32 0, .string ⟨#[]⟩] 24))
      have HB6 := Lib.hid (HB5.out.alloc HB5.out.size (.cells #[.int .i64 0, .int .i64 0, .int .i64 0, .int .i64 0, .int .i64 0, .int .u32 0, .string ⟨#[]⟩] 24))
      generalize W5.alloc (.cells #[.int .i64 0, .int .i64 0, .int .i64 0, .int .i64 0, .int .i64 0, .int .u32 0, .string ⟨#[]⟩] 24) = W6 at *
      generalize W5.heap.size = gz at *
      have HT6 := Lib.hid (show Calls Tryd.prog 18 #[.slice (some ⟨gz, 0, none⟩) 1 1] W6 fun e w' => e = .returned (.tuple #[.string ⟨#[]⟩, .int .i64 200]) ∧ Below W6.heap.size W6 w' from by
        have h := text_any (HG.out.below HB6.out) (some ⟨gz, 0, none⟩) 1 [⟨0, 0, 0, 0, 0, 0, ⟨#[]⟩⟩] (by decide) HZ6.out (fun x hx => by simp at hx; subst hx; decide)
        rw [text_zero] at h
        exact h)
      clear HB5 HE5 hmk HZ6
      go_wp2_with fail
      refine HT6.out.mono ?_
      rintro e W7 ⟨rfl, hb7⟩
      have HB7 := Lib.hid (bl_step HB6.out HB6.out.size hb7)
      have HE7 := Lib.hid (HE6.out.below hb7)
      clear hb7 HB6 HE6 HT6
      go_wp2_with fail
      refine (alive_any (HG.out.below HB7.out)).mono ?_
      rintro e W8 ⟨rfl, hb8⟩
      have HB8 := Lib.hid (bl_step HB7.out HB7.out.size hb8)
      have HE8 := Lib.hid (HE7.out.below hb8)
      clear hb8 HB7 HE7
      have HY9 := Lib.hid (ops_blk (xs := [⟨1, 1, 200, 0, 0, 0, ⟨#[]⟩⟩, ⟨8, 0, 0, 0, 0, 255, ⟨#[98]⟩⟩]) (Blk.new W8 24 #[.int .i64 1, .int .i64 1, .int .i64 200, .int .i64 0, .int .i64 0, .int .u32 0, .string ⟨#[]⟩, .int .i64 8, .int .i64 0, .int .i64 0, .int .i64 0, .int .i64 0, .int .u32 255, .string ⟨#[98]⟩]) rfl (by decide))
      have HE9 := Lib.hid (HE8.out.alloc (.cells #[.int .i64 1, .int .i64 1, .int .i64 200, .int .i64 0, .int .i64 0, .int .u32 0, .string ⟨#[]⟩, .int .i64 8, .int .i64 0, .int .i64 0, .int .i64 0, .int .i64 0, .int .u32 255, .string ⟨#[98]⟩] 24))
      have HB9 := Lib.hid (HB8.out.alloc HB8.out.size (.cells #[.int .i64 1, .int .i64 1, .int .i64 200, .int .i64 0, .int .i64 0, .int .u32 0, .string ⟨#[]⟩, .int .i64 8, .int .i64 0, .int .i64 0, .int .i64 0, .int .i64 0, .int .u32 255, .string ⟨#[98]⟩] 24))
      have HS9 := Lib.hid (show Calls Tryd.prog 20 #[.slice E 2 ce, .slice (some ⟨W8.heap.size, 0, none⟩) 2 2] (W8.alloc (.cells #[.int .i64 1, .int .i64 1, .int .i64 200, .int .i64 0, .int .i64 0, .int .u32 0, .string ⟨#[]⟩, .int .i64 8, .int .i64 0, .int .i64 0, .int .i64 0, .int .i64 0, .int .u32 255, .string ⟨#[98]⟩] 24)) fun e w' => e = .returned (.bool true) ∧ Below w.heap.size w w' from by
        have h := same_any E (some ⟨W8.heap.size, 0, none⟩) ce 2 [⟨1, 1, 200, 0, 0, 0, ⟨#[]⟩⟩, ⟨8, 0, 0, 0, 0, 255, ⟨#[98]⟩⟩] [⟨1, 1, 200, 0, 0, 0, ⟨#[]⟩⟩, ⟨8, 0, 0, 0, 0, 255, ⟨#[98]⟩⟩] HE9.out HY9.out (by decide) (by decide)
        rw [decide_eq_true rfl] at h
        exact h.mono fun e w' h' => ⟨h'.1, bl_step HB9.out HB9.out.size h'.2⟩)
      clear HY9 HE9 HB9 HE8
      go_wp2_with fail
      refine HS9.out.mono ?_
      rintro e W10 ⟨rfl, hb10⟩
      have HB10 := Lib.hid hb10
      clear hb10 HS9 HB8
      go_wp2_with fail
      refine (HN0.out _ HB10.out).mono ?_
      rintro e _ ⟨rfl, rfl⟩
      go_wp2_with fail
      refine (HN13.out _ HB10.out).mono ?_
      rintro e _ ⟨rfl, rfl⟩
      go_wp2
      go_ret
      exact ⟨by first | rfl | simp, HB10.out⟩
end Go.Proofs.YtgefnicpkfcghaaDoor
