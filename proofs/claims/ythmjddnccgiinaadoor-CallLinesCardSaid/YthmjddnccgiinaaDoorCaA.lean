/-
  The chapter's first examples hold. Condition: the tables lie as the program's text, and the library's, lay them.
-/
import Derived.Test.YthmjddnccgiinaaDoorCa9
namespace Go.Proofs.YthmjddnccgiinaaDoor
open Go.RowKit
set_option linter.unusedVariables false
set_option linter.unusedSimpArgs false

/-- A call that came in. -/
def InC (x : Cl) : Prop := (-9223372036854775808 ≤ x.n ∧ x.n ≤ 9223372036854775807) ∧ RangeC x
/-- A line, and a program, reckoned. -/
def lineF (x : Cl) : List UInt8 := glue (nameC x.n :: (agL x.n x.a x.b x.c).map fun g => decF 20 g.2.toNat)
theorem dec_F {v : Int} (h : v ≤ 4294967295) : decF 20 v.toNat = Lib.decDigits v.toNat := by
  have h1 : v.toNat < 10 ^ 20 := by
    have : v.toNat ≤ 4294967295 := by omega
    exact Nat.lt_of_le_of_lt this (by decide)
  exact decF_eq 20 _ h1 (by omega)
theorem lineF_eq {x : Cl} (hr : RangeC x) : lineF x = lineC x := by
  unfold lineF lineC wordsC
  congr 2
  exact List.map_congr_left fun g hg => dec_F (agL_range hr g hg).2
def argF (g : Ag) : List UInt8 := [108, 105, 32] ++ itoaF (1 + (g.1.val : Int)) ++ [32] ++ decF 20 g.2.toNat ++ [10]
def callF (x : Cl) : List UInt8 := [108, 105, 32, 48, 32] ++ itoaF x.n ++ [10] ++ (agL x.n x.a x.b x.c).flatMap argF ++ [115, 121, 115, 10]
theorem callF_eq {x : Cl} (hr : RangeC x) (hm : MayC x) : callF x = callP x := by
  have h0 := may_num hm.1
  have hm1 : (agL x.n x.a x.b x.c).map argF = (agL x.n x.a x.b x.c).map argP := List.map_congr_left fun g hg => by
    unfold argF argP wordG
    rw [dec_F (agL_range hr g hg).2, itoaF_eq (by omega) (by have := g.1.isLt; omega)]
  unfold callF callP numP
  rw [itoaF_eq (by omega) (by omega), List.flatMap_def, List.flatMap_def, hm1]
theorem callsAt_one {W : World} {b : Nat} {t : TypeId} {n x y z : Int} (h : Blk W b t #[.int .i64 n, .int .u32 x, .int .u32 y, .int .u32 z]) : CallsAt W (some ⟨b, 0, none⟩) [⟨n, x, y, z⟩] := fun i r hi => by
  match i with
  | 0 =>
    injection hi with hi
    subst hi
    refine ⟨b, 0, rfl, h.lt, fun j v hv => ?_⟩
    have hj : j < 4 := (List.getElem?_eq_some_iff.1 hv).1
    rcases (show j = 0 ∨ j = 1 ∨ j = 2 ∨ j = 3 by omega) with rfl | rfl | rfl | rfl <;> (injection hv with hv; subst hv; exact h.cell _)
  | i + 1 => simp at hi
theorem program_any {w : World} (hG : Ground w) (A : Option Addr) (ca : Nat) (l : List Cl) (hA : CallsAt w A l) (hlen : l.length ≤ 1000000) (hr : ∀ x ∈ l, RangeC x) :
    Calls Tryd.prog 24 #[.slice A l.length ca] w fun e w' => e = .returned (.tuple #[.string ⟨((progO l).getD []).toArray⟩, .int .i64 (errC (progO l))]) ∧ Below w.heap.size w w' :=
  callsIn_wide.1 (program_in 10 (by omega) hG A ca l hA hlen hr)
theorem prog_one {x : Cl} {s : List UInt8} (hr : RangeC x) (hf : FineC x) (hs : callF x = s) : progO [x] = some s := by
  unfold progO
  rw [if_pos (by intro y hy; simp at hy; rw [hy]; exact hf)]
  unfold progL
  rw [List.flatMap_cons, List.flatMap_nil, List.append_nil, ← callF_eq hr hf.1, hs]
def regsE : Nat → Int := fun k => [7, 3, 64, 5, 9, 9, 9, 9].getD k 0
theorem ofE : ofV regsE = .tuple #[.agg #[.int .i64 7, .int .u32 3, .int .u32 64, .int .u32 5], .bool true] := by
  unfold ofV regsE
  rw [if_neg (by decide +kernel), show decide (0 ≤ kM (kR ([7, 3, 64, 5, 9, 9, 9, 9].getD 0 0))) = true by decide +kernel]
  rfl

set_option maxRecDepth 100000 in
set_option maxHeartbeats 4000000 in
theorem alive_any {w : World} (hG : Ground w) (hC : Codes w) : Calls Tryd.prog 22 #[] w fun e w' => e = .returned (.bool true) ∧ Below w.heap.size w w' := by
  have hb0 := (Below.refl w.heap.size w).alloc (Nat.le_refl _) (.cells #[.int .i64 7, .int .u32 3, .int .u32 64, .int .u32 5] 27)
  have hx0 := Blk.new w 27 #[.int .i64 7, .int .u32 3, .int .u32 64, .int .u32 5]
  have HL := Lib.hid (fun W (hW : Below w.heap.size w W) => show Calls Tryd.prog 23 #[.agg #[.int .i64 7, .int .u32 3, .int .u32 64, .int .u32 5]] W fun e w' => e = .returned (.tuple #[.string ⟨#[114, 101, 97, 100, 32, 51, 32, 54, 52, 32, 53]⟩, .int .i64 0]) ∧ Below W.heap.size W w' from by
    have hr : RangeC ⟨7, 3, 64, 5⟩ := by unfold RangeC; decide
    have h := line_yes (hG.below hW) 7 3 64 5 hr (by decide +kernel)
    rw [← lineF_eq hr, show lineF ⟨7, 3, 64, 5⟩ = [114, 101, 97, 100, 32, 51, 32, 54, 52, 32, 53] by decide +kernel] at h
    exact h)
  have HO := Lib.hid (fun W (hW : Below w.heap.size w W) => show Calls Tryd.prog 10 #[.agg #[.int .u32 7, .int .u32 3, .int .u32 64, .int .u32 5, .int .u32 9, .int .u32 9, .int .u32 9, .int .u32 9]] W fun e w' => e = .returned (.tuple #[.agg #[.int .i64 7, .int .u32 3, .int .u32 64, .int .u32 5], .bool true]) ∧ Below W.heap.size W w' from by
    have h := of_regs (hG.below hW).laid regsE (by decide)
    rw [ofE] at h
    exact h)
  have HP := Lib.hid (fun W b t (hW : Below w.heap.size w W) (hx : Blk W b t #[.int .i64 1, .int .u32 2, .int .u32 0, .int .u32 0]) => show Calls Tryd.prog 24 #[.slice (some ⟨b, 0, none⟩) 1 1] W fun e w' => e = .returned (.tuple #[.string ⟨#[108, 105, 32, 48, 32, 49, 10, 108, 105, 32, 49, 32, 50, 10, 115, 121, 115, 10]⟩, .int .i64 0]) ∧ Below W.heap.size W w' from by
    have hr : RangeC ⟨1, 2, 0, 0⟩ := by unfold RangeC; decide
    have h := program_any (hG.below hW) _ 1 [⟨1, 2, 0, 0⟩] (callsAt_one hx) (by decide) (by intro y hy; simp at hy; rw [hy]; exact hr)
    rw [prog_one (s := [108, 105, 32, 48, 32, 49, 10, 108, 105, 32, 49, 32, 50, 10, 115, 121, 115, 10]) hr (by decide +kernel) (by decide +kernel)] at h
    exact h)
  have HF := Lib.hid (fun W (hW : Below w.heap.size w W) => show Calls Tryd.prog 20 #[.int .u32 4294967285] W fun e w' => e = .returned (.int .i64 11) ∧ Below W.heap.size W w' from by
    have h := failed_any (hC.below hW) 4294967285 (by decide) (by decide)
    rw [show failOf 4294967285 = 11 by decide +kernel] at h
    exact h)
  have HE := fun w => eqC ⟨7, 3, 64, 5⟩ ⟨7, 3, 64, 5⟩ w
  have hd : decide ((⟨7, 3, 64, 5⟩ : Cl) = ⟨7, 3, 64, 5⟩) = true := decide_eq_true rfl
  rw [hd] at HE
  dsimp only at HE
  clear hd hG hC
  go_enter Tryd.func22, Tryd.ntmps22
  go_wp2_with fail
  refine (HL.out _ hb0).mono ?_
  rintro e W1 ⟨rfl, hb1⟩
  have hx1 := hx0.below hb1 hx0.lt
  have hB1 := bl_step hb0 hb1
  have HX1 := Lib.hid hx1
  clear hb0 hx0 hb1 hx1
  go_wp2_with fail
  refine (HO.out _ hB1).mono ?_
  rintro e W2 ⟨rfl, hb2⟩
  have hx2 := (HX1.out.below hb2 HX1.out.lt).alloc (.cells #[.int .i64 7, .int .u32 3, .int .u32 64, .int .u32 5] 27)
  have hy2 := Blk.new W2 27 #[.int .i64 7, .int .u32 3, .int .u32 64, .int .u32 5]
  have hB2 := bl_new (bl_step hB1 hb2) (.cells #[.int .i64 7, .int .u32 3, .int .u32 64, .int .u32 5] 27)
  have hx3 := hx2.alloc (.cells #[.int .i64 1, .int .u32 2, .int .u32 0, .int .u32 0] 27)
  have hy3 := hy2.alloc (.cells #[.int .i64 1, .int .u32 2, .int .u32 0, .int .u32 0] 27)
  have hz3 := Blk.new (W2.alloc (.cells #[.int .i64 7, .int .u32 3, .int .u32 64, .int .u32 5] 27)) 27 #[.int .i64 1, .int .u32 2, .int .u32 0, .int .u32 0]
  have hB3 := bl_new hB2 (.cells #[.int .i64 1, .int .u32 2, .int .u32 0, .int .u32 0] 27)
  simp only [World.size_alloc] at hz3
  have HX3 := Lib.hid hx3
  have HY3 := Lib.hid hy3
  have HZ3 := Lib.hid hz3
  have HB3 := Lib.hid hB3
  clear hB1 hb2 hx2 hy2 hB2 hx3 hy3 hz3 hB3
  go_wp2_with fail
  refine (HP.out _ _ _ HB3.out HZ3.out).mono ?_
  rintro e W3 ⟨rfl, hb3⟩
  have hx4 := HX3.out.below hb3 HX3.out.lt
  have hy4 := HY3.out.below hb3 HY3.out.lt
  have hB4 := bl_step HB3.out hb3
  obtain ⟨x0, x1, x2, x3, xlt⟩ := ccells hx4
  obtain ⟨y0, y1, y2, y3, ylt⟩ := ccells hy4
  clear hb3 hx4 hy4
  go_wp2_with fail
  refine (HF.out _ hB4).mono ?_
  rintro e W4 ⟨rfl, hb4⟩
  have HB5 := Lib.hid (bl_step hB4 hb4)
  clear hb4 hB4
  go_wp2
  go_ret
  exact ⟨by first | rfl | simp, HB5.out⟩
end Go.Proofs.YthmjddnccgiinaaDoor
