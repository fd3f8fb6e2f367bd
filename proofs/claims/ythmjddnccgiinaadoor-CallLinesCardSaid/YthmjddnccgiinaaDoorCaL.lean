/-
  CallLines, walked: a call's line, a line's call, and programs of calls, are the document's. Condition: the tables lie as the program's text, and the library's, lay them.
-/
import Derived.Test.YthmjddnccgiinaaDoorCaA
import Derived.Test.YthmjddnccgiinaaDoorCe3
import Derived.Test.YthmjddnccgiinaaDoorCe4
namespace Go.Proofs.YthmjddnccgiinaaDoor
open Go.RowKit
set_option linter.unusedVariables false
set_option linter.unusedSimpArgs false

set_option maxRecDepth 100000 in
set_option maxHeartbeats 4000000 in
theorem linesLaw_any {w : World} (hG : GroundR w) (N a b c : Int) (hc : InC ⟨N, a, b, c⟩) (s : ByteArray) (hs : s.size ≤ maxLen) (A : Option Addr) (ca : Nat) (l : List Cl) (hA : CallsAt w A l) (hl : l.length ≤ maxLen) (hr : ∀ x ∈ l, InC x) :
    Calls Tryd.prog 6 #[.agg #[.int .i64 N, .int .u32 a, .int .u32 b, .int .u32 c], .string s, .slice A l.length ca] w fun e w' => e = .returned (.bool true) ∧ Below w.heap.size w w' := by
  have hb0 := (Below.refl w.heap.size w).alloc (Nat.le_refl _) (.cells #[.int .i64 N, .int .u32 a, .int .u32 b, .int .u32 c] 27)
  have hx := Blk.new w 27 #[.int .i64 N, .int .u32 a, .int .u32 b, .int .u32 c]
  by_cases hgr : 80 < s.size ∨ 60 < l.length
  · have hcs : ((80 : Int) < (s.size : Int)) ∨ (¬ (80 : Int) < (s.size : Int) ∧ (60 : Int) < (l.length : Int)) := by omega
    have HB0 := Lib.hid hb0
    clear hb0 hx hG hA hr hc hgr
    rcases hcs with q1 | ⟨q1, q2⟩
    all_goals
      go_enter Tryd.func6, Tryd.ntmps6
      go_wp2
      go_ret
      exact ⟨rfl, HB0.out⟩
  have q1 : ¬ (80 : Int) < (s.size : Int) := by omega
  have q2 : ¬ (60 : Int) < (l.length : Int) := by omega
  have z1 : s.size ≤ 1000000 := by omega
  have z2 : l.length ≤ 1000000 := by omega
  obtain ⟨L, E, HL, HRL⟩ : ∃ (L : ByteArray) (E : Int), Hid (∀ W, Below w.heap.size w W → Calls Tryd.prog 23 #[.agg #[.int .i64 N, .int .u32 a, .int .u32 b, .int .u32 c]] W fun e w' => e = .returned (.tuple #[.string L, .int .i64 E]) ∧ Below W.heap.size W w') ∧
      Hid (∀ W, Calls Tryd.prog 27 #[.agg #[.int .i64 N, .int .u32 a, .int .u32 b, .int .u32 c]] W fun e w' => e = .returned (.tuple #[.string L, .int .i64 E]) ∧ Below W.heap.size W w') := by
    by_cases hm : MayC ⟨N, a, b, c⟩
    · exact ⟨sOf N (agL N a b c), 0, Lib.hid (fun W hW => line_yes (hG.below hW).g N a b c hc.2 hm), Lib.hid (fun W => refLine_yes N a b c hc.2 hm)⟩
    · exact ⟨⟨#[]⟩, 160, Lib.hid (fun W hW => line_no (hG.below hW).g N a b c hm), Lib.hid (fun W => refLine_no N a b c hm)⟩
  obtain ⟨y, hy⟩ : ∃ y : Cl, clA (readC s.data.toList) = #[.int .i64 y.n, .int .u32 y.a, .int .u32 y.b, .int .u32 y.c] := by
    cases readC s.data.toList with
    | none => exact ⟨⟨0, 0, 0, 0⟩, rfl⟩
    | some y => exact ⟨y, rfl⟩
  obtain ⟨y0, y1, y2, y3⟩ := y
  dsimp only at hy
  obtain ⟨G, hG2⟩ : ∃ G, errC (readC s.data.toList) = G := ⟨_, rfl⟩
  have HRD := Lib.hid (fun W (hW : Below w.heap.size w W) => show Calls Tryd.prog 28 #[.string s] W fun e w' => e = .returned (.tuple #[.agg #[.int .i64 y0, .int .u32 y1, .int .u32 y2, .int .u32 y3], .int .i64 G]) ∧ Below W.heap.size W w' from by
    have h := read_any (hG.below hW) s z1
    rw [hy, hG2] at h
    exact h)
  have HRR := Lib.hid (fun W => show Calls Tryd.prog 29 #[.string s] W fun e w' => e = .returned (.tuple #[.agg #[.int .i64 y0, .int .u32 y1, .int .u32 y2, .int .u32 y3], .int .i64 G]) ∧ Below W.heap.size W w' from by
    have h := refRead_any (w := W) s z1
    rw [hy, hG2] at h
    exact h)
  obtain ⟨P, hP⟩ : ∃ P : ByteArray, (⟨((progO l).getD []).toArray⟩ : ByteArray) = P := ⟨_, rfl⟩
  obtain ⟨I, hI⟩ : ∃ I, errC (progO l) = I := ⟨_, rfl⟩
  have HPP := Lib.hid (fun W (hW : Below w.heap.size w W) => show Calls Tryd.prog 24 #[.slice A l.length ca] W fun e w' => e = .returned (.tuple #[.string P, .int .i64 I]) ∧ Below W.heap.size W w' from by
    have h := callsIn_wide.1 (program_in 10 (Nat.le_refl _) (hG.below hW).g A ca l (RowsAt.below hA hW) z2 (fun x hx => (hr x hx).2))
    rw [hP, hI] at h
    exact h)
  have HPR := Lib.hid (fun W (hW : Below w.heap.size w W) => show Calls Tryd.prog 30 #[.slice A l.length ca] W fun e w' => e = .returned (.tuple #[.string P, .int .i64 I]) ∧ Below W.heap.size W w' from by
    have h := refProg_any (w := W) A ca l (RowsAt.below hA hW) z2 (fun x hx => (hr x hx).2)
    rw [hP, hI] at h
    exact h)
  have HE := fun w => eqC ⟨y0, y1, y2, y3⟩ ⟨y0, y1, y2, y3⟩ w
  have hd : decide ((⟨y0, y1, y2, y3⟩ : Cl) = ⟨y0, y1, y2, y3⟩) = true := decide_eq_true rfl
  rw [hd] at HE
  dsimp only at HE
  have HB0 := Lib.hid hb0
  have HX0 := Lib.hid hx
  obtain ⟨c0, c1, c2, c3, clt⟩ := ccells hx
  clear hd hb0 hx hG hA hr hc hgr hy hG2 hP hI z1 z2 hs hl
  go_enter Tryd.func6, Tryd.ntmps6
  go_wp2_with fail
  refine (HL.out _ HB0.out).mono ?_
  rintro e W1 ⟨rfl, hb1⟩
  have HB1 := Lib.hid (bl_step HB0.out hb1)
  have HX1 := Lib.hid (HX0.out.below hb1 HX0.out.lt)
  clear c0 c1 c2 c3 clt hb1 HB0 HX0 HL
  obtain ⟨c0, c1, c2, c3, clt⟩ := ccells HX1.out
  go_wp2_with fail
  refine (HRL.out _).mono ?_
  rintro e W2 ⟨rfl, hb2⟩
  have HB2 := Lib.hid (bl_step HB1.out hb2)
  clear c0 c1 c2 c3 clt hb2 HB1 HX1 HRL
  go_wp2_with fail
  refine (HRD.out _ HB2.out).mono ?_
  rintro e W3 ⟨rfl, hb3⟩
  have HB3 := Lib.hid (bl_new (bl_step HB2.out hb3) (.cells #[.int .i64 y0, .int .u32 y1, .int .u32 y2, .int .u32 y3] 27))
  have HY3 := Lib.hid (Blk.new W3 27 #[.int .i64 y0, .int .u32 y1, .int .u32 y2, .int .u32 y3])
  clear hb3 HB2 HRD
  go_wp2_with fail
  refine (HRR.out _).mono ?_
  rintro e W4 ⟨rfl, hb4⟩
  have HY4 := Lib.hid ((HY3.out.below hb4 HY3.out.lt).alloc (.cells #[.int .i64 y0, .int .u32 y1, .int .u32 y2, .int .u32 y3] 27))
  have HZ4 := Lib.hid (Blk.new W4 27 #[.int .i64 y0, .int .u32 y1, .int .u32 y2, .int .u32 y3])
  have HB4 := Lib.hid (bl_new (bl_step HB3.out hb4) (.cells #[.int .i64 y0, .int .u32 y1, .int .u32 y2, .int .u32 y3] 27))
  clear hb4 HB3 HY3 HRR
  go_wp2_with fail
  refine (HPP.out _ HB4.out).mono ?_
  rintro e W5 ⟨rfl, hb5⟩
  have HY5 := Lib.hid (HY4.out.below hb5 HY4.out.lt)
  have HZ5 := Lib.hid (HZ4.out.below hb5 HZ4.out.lt)
  have HB5 := Lib.hid (bl_step HB4.out hb5)
  clear hb5 HB4 HY4 HZ4 HPP
  go_wp2_with fail
  refine (HPR.out _ HB5.out).mono ?_
  rintro e W6 ⟨rfl, hb6⟩
  obtain ⟨c0, c1, c2, c3, clt⟩ := ccells (HY5.out.below hb6 HY5.out.lt)
  obtain ⟨d0, d1, d2, d3, dlt⟩ := ccells (HZ5.out.below hb6 HZ5.out.lt)
  have HB6 := Lib.hid (bl_step HB5.out hb6)
  have e1 := seq_true (rfl : L = L)
  have e2 := seq_true (rfl : P = P)
  clear hb6 HB5 HY5 HZ5 HPR
  go_wp2
  go_ret
  exact ⟨by first | rfl | simp, HB6.out⟩
end Go.Proofs.YthmjddnccgiinaaDoor
