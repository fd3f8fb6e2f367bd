/-
  The law CallTells answers true for every input, the program's tables lying as its text lays them. No other condition.
-/
import Derived.SevenTiedAt
import Derived.ChangeMaps5
import Derived.Test.YthmjddnccgiinaaDoorCards
import Derived.Test.YthmjddnccgiinaaDoorCallLaid
import Derived.Test.YthmjddnccgiinaaDoorCall5
import Derived.Test.YthmjddnccgiinaaDoorClose
namespace Go.Proofs.YthmjddnccgiinaaDoor.lawCallTells
open Go.ChangeShapes Go.WideShapes Go.ChangeAt Go.RowKit Go.ChangeMaps
set_option linter.unusedVariables false
set_option linter.unusedSimpArgs false

theorem bl_step {v W W1 : World} (h : Below v.heap.size v W) (h1 : Below W.heap.size W W1) : Below v.heap.size v W1 := h.trans (h1.mono h.size)
theorem eqArgs (a b c : Int) (w : World) : (Op.equalIn 9999 25 (.agg #[.int .u32 a, .int .u32 b, .int .u32 c]) (.agg #[.int .u32 a, .int .u32 b, .int .u32 c])).run Tryd.prog w = .ok true w := by
  have a2 := Tryd.sizeOf22
  have a4 := Tryd.isAgg22
  rw [show (9999 : Nat) = 9998 + 1 from rfl, Op.equalIn]
  simp only [Sem.run_bind, run_underlying Tryd.underlying25, Result.andThen_ok]
  simp only [Std.Legacy.Range.forIn_eq_forIn_range', Std.Legacy.Range.size, Nat.sub_zero, Nat.add_sub_cancel, Nat.div_one, List.range'_succ, List.range'_zero, List.forIn_cons, List.forIn_nil]
  simp only [Sem.run_bind, a2, Result.andThen_ok, Nat.reduceMul, Nat.reduceAdd, Nat.zero_mul]
  go_simp
theorem eqCall (n a b c : Int) (w : World) : (Op.equalIn 10000 27 (.agg #[.int .i64 n, .int .u32 a, .int .u32 b, .int .u32 c]) (.agg #[.int .i64 n, .int .u32 a, .int .u32 b, .int .u32 c])).run Tryd.prog w = .ok true w := by
  rw [show (10000 : Nat) = 9999 + 1 from rfl, run_equalIn_agg w 9999 27 _ _ (by kernel_rfl) Tryd.stoodInHeld27]
  have a3 := Tryd.isAgg3
  have a4 := Tryd.isAgg22
  have a5 := Tryd.isAgg25
  simp only [Program.fieldsOf, Tryd.underlying27]
  have e := fun w => eqArgs a b c w
  go_simp

/-- After the loop: what the words tell of the text. -/
def Found (s : ByteArray) (k r : Nat) : Prop := (r = 0 ∧ ∀ j, 1 ≤ j → j < k → kN j ≠ s) ∨ (1 ≤ r ∧ r < k ∧ kN r = s)
theorem found_isName {s : ByteArray} {r : Nat} (h : Found s 23 r) : IsName s r := by
  rcases h with ⟨rfl, h⟩ | ⟨h1, h2, h3⟩
  · by_cases h0 : kN 0 = s
    · exact .inl ⟨by omega, h0⟩
    · exact .inr ⟨rfl, fun j hj => by
        rcases Nat.eq_zero_or_pos j with rfl | hp
        · exact h0
        · exact h j hp hj⟩
  · exact .inl ⟨h2, h3⟩
theorem found_hit {s : ByteArray} {k r : Nat} (h1 : 1 ≤ k) (hs : kN k = s) : Found s (k + 1) k := .inr ⟨h1, by omega, hs⟩
theorem found_miss {s : ByteArray} {k r : Nat} (hs : kN k ≠ s) (h : Found s k r) : Found s (k + 1) r := by
  rcases h with ⟨rfl, h⟩ | ⟨h1, h2, h3⟩
  · exact .inl ⟨rfl, fun j h1 hj => by
      rcases Nat.lt_or_ge j k with hlt | hge
      · exact h j h1 hlt
      · have : j = k := by omega
        subst this; exact hs⟩
  · exact .inr ⟨h1, by omega, h3⟩

set_option maxRecDepth 100000 in
set_option maxHeartbeats 8000000 in
theorem walk {w : World} (hL : Laid w) (n code : Int) (hlo : -9223372036854775808 ≤ n) (s : ByteArray) (hs : s.size ≤ maxLen) (x : Int) (hx0 : 0 ≤ x) (hx1 : x ≤ 4294967295) (R : Nat → Int) (hR : 0 ≤ R 0 ∧ R 0 ≤ 4294967295) :
    Calls Tryd.prog 3 #[.int .i64 n, .int .i64 code, .string s, .int .u32 x, .agg (regsA R)] w fun e w' => e = .returned (.bool true) ∧ Below w.heap.size w w' := by
  unfold maxLen at hs
  have HOF := Lib.hid (fun W (hW : Below w.heap.size w W) => of_regs (hL.below hW) R hR)
  have HRO := Lib.hid (fun W => refOf_regs (w := W) R hR)
  obtain ⟨n0, p0, p1, p2, b, hV⟩ : ∃ (n0 p0 p1 p2 : Int) (b : Bool), ofV R = .tuple #[.agg #[.int .i64 n0, .int .u32 p0, .int .u32 p1, .int .u32 p2], .bool b] := by
    unfold ofV
    split
    · exact ⟨_, _, _, _, _, rfl⟩
    · exact ⟨_, _, _, _, _, rfl⟩
  rw [hV] at HOF HRO
  unfold regsA at HOF HRO ⊢
  generalize R 0 = r0 at *
  generalize R 1 = r1 at *
  generalize R 2 = r2 at *
  generalize R 3 = r3 at *
  generalize R 4 = r4 at *
  generalize R 5 = r5 at *
  generalize R 6 = r6 at *
  generalize R 7 = r7 at *
  have HL := Lib.hid hL
  clear hL hV hR
  have hb0 := (Below.refl w.heap.size w).alloc (Nat.le_refl _) (.cells #[.int .u32 r0, .int .u32 r1, .int .u32 r2, .int .u32 r3, .int .u32 r4, .int .u32 r5, .int .u32 r6, .int .u32 r7] 23)
  have hX0 := Blk.new w 23 #[.int .u32 r0, .int .u32 r1, .int .u32 r2, .int .u32 r3, .int .u32 r4, .int .u32 r5, .int .u32 r6, .int .u32 r7]
  by_cases hs40 : 40 < s.size
  · clear hX0 HOF HRO HL
    have HB := Lib.hid hb0
    clear hb0
    go_enter Tryd.func3, Tryd.ntmps3
    go_wp2
    go_ret
    exact ⟨rfl, HB.out⟩
  · have hs40' : s.size ≤ 40 := by omega
    clear hs40
    have HRN := Lib.hid (fun W (k : Nat) => refName_any (w := W) (k : Int) (by omega))
    have HB0 := Lib.hid hb0
    have HX0 := Lib.hid hX0
    clear hb0 hX0
    go_enter Tryd.func3, Tryd.ntmps3
    go_wp2
    go_loopw [11, 12] (fun sb si wr => ∃ k r : Nat, si = .int .i64 (k : Int) ∧ sb = .int .i64 (r : Int) ∧ 1 ≤ k ∧ k ≤ 23 ∧ Found s k r ∧ Below w.heap.size w wr ∧ Blk wr w.heap.size 23 #[.int .u32 r0, .int .u32 r1, .int .u32 r2, .int .u32 r3, .int .u32 r4, .int .u32 r5, .int .u32 r6, .int .u32 r7]) (fun _ si _ => 23 - (intOf si).toNat)
    case atStart => exact ⟨1, 0, rfl, rfl, by omega, by omega, .inl ⟨rfl, fun j h h' => by omega⟩, HB0.out, HX0.out⟩
    case round =>
      obtain ⟨k, r, rfl, rfl, hk1, hk, hF, hB, hX⟩ := hrel
      have HF := Lib.hid hF
      have HB := Lib.hid hB
      have HX := Lib.hid hX
      clear hF hB hX HX0 HB0
      by_cases hkl : k ≤ 22
      · have hkb : (k : Int) ≤ 22 := by omega
        have hnm := HRN.out wr k
        rw [kR_in hk1 (by omega)] at hnm
        have HNM := Lib.hid hnm
        by_cases hkn : kN k = s
        · have hb := seq_true hkn
          have HFN := Lib.hid (found_hit (r := r) hk1 hkn)
          generalize kN k = t at *
          clear hnm hkn
          go_wp2_with (go_at_call 9; refine HNM.out.mono ?_; rintro e w1 ⟨rfl, hb1⟩)
          go_roundw
          case rel => exact ⟨k + 1, k, by go_num, rfl, by omega, by omega, HFN.out, bl_step HB.out hb1, HX.out.below hb1 HX.out.lt⟩
          case measure => simp [intOf]; omega
        · have hb := seq_false hkn
          have HFN := Lib.hid (found_miss hkn HF.out)
          generalize kN k = t at *
          clear hnm hkn
          go_wp2_with (go_at_call 9; refine HNM.out.mono ?_; rintro e w1 ⟨rfl, hb1⟩)
          go_roundw
          case rel => exact ⟨k + 1, r, by go_num, rfl, by omega, by omega, HFN.out, bl_step HB.out hb1, HX.out.below hb1 HX.out.lt⟩
          case measure => simp [intOf]; omega
      · have hk23 : k = 23 := by omega
        subst hk23
        have hfn := found_isName HF.out
        have HFN := Lib.hid hfn
        clear hfn HF HRN
        obtain ⟨x0, x1, x2, x3, x4, x5, x6, x7⟩ := And.intro (HX.out.cell 0) (And.intro (HX.out.cell 1) (And.intro (HX.out.cell 2) (And.intro (HX.out.cell 3) (And.intro (HX.out.cell 4) (And.intro (HX.out.cell 5) (And.intro (HX.out.cell 6) (HX.out.cell 7)))))))
        simp only [List.getElem?_toArray, List.getElem?_cons_zero, List.getElem?_cons_succ] at x0 x1 x2 x3 x4 x5 x6 x7
        have xlt := HX.out.lt
        go_wp2_with fail
        refine (HOF.out _ HB.out).mono ?_
        rintro e w1 ⟨rfl, hb1⟩
        have HB1 := Lib.hid (bl_step HB.out hb1)
        have hs1 := hb1.size
        have HX1 := Lib.hid ((HX.out.below hb1 HX.out.lt).alloc (.cells #[.int .i64 n0, .int .u32 p0, .int .u32 p1, .int .u32 p2] 27))
        have HC1 := Lib.hid (Blk.new w1 27 #[.int .i64 n0, .int .u32 p0, .int .u32 p1, .int .u32 p2])
        have HB1a := Lib.hid ((bl_step HB.out hb1).alloc (Nat.le_trans HB.out.size hs1) (.cells #[.int .i64 n0, .int .u32 p0, .int .u32 p1, .int .u32 p2] 27))
        clear x0 x1 x2 x3 x4 x5 x6 x7 xlt hb1 hs1 HB HX HOF
        obtain ⟨x0, x1, x2, x3, x4, x5, x6, x7⟩ := And.intro (HX1.out.cell 0) (And.intro (HX1.out.cell 1) (And.intro (HX1.out.cell 2) (And.intro (HX1.out.cell 3) (And.intro (HX1.out.cell 4) (And.intro (HX1.out.cell 5) (And.intro (HX1.out.cell 6) (HX1.out.cell 7)))))))
        simp only [List.getElem?_toArray, List.getElem?_cons_zero, List.getElem?_cons_succ] at x0 x1 x2 x3 x4 x5 x6 x7
        have xlt := HX1.out.lt
        go_wp2_with fail
        refine (HRO.out _).mono ?_
        rintro e w2 ⟨rfl, hb2⟩
        have hb3 := (bl_step HB1a.out hb2).alloc (Nat.le_trans HB1a.out.size hb2.size) (.cells #[.int .i64 n0, .int .u32 p0, .int .u32 p1, .int .u32 p2] 27)
        have hc3 := (HC1.out.below hb2 HC1.out.lt).alloc (.cells #[.int .i64 n0, .int .u32 p0, .int .u32 p1, .int .u32 p2] 27)
        have hd3 := Blk.new w2 27 #[.int .i64 n0, .int .u32 p0, .int .u32 p1, .int .u32 p2]
        clear x0 x1 x2 x3 x4 x5 x6 x7 xlt hb2 HB1 HX1 HC1 HB1a HRO
        have hs3 : (w2.alloc (.cells #[.int .i64 n0, .int .u32 p0, .int .u32 p1, .int .u32 p2] 27)).heap.size = w2.heap.size + 1 := World.size_alloc ..
        have HQ := Lib.hid (fun W (hW : Below (w2.alloc (.cells #[.int .i64 n0, .int .u32 p0, .int .u32 p1, .int .u32 p2] 27)).heap.size (w2.alloc (.cells #[.int .i64 n0, .int .u32 p0, .int .u32 p1, .int .u32 p2] 27)) W) => And.intro (ccells (hc3.below hW hc3.lt)) (ccells (hd3.below hW hd3.lt)))
        have HLW := Lib.hid (fun W (hW : Below (w2.alloc (.cells #[.int .i64 n0, .int .u32 p0, .int .u32 p1, .int .u32 p2] 27)).heap.size (w2.alloc (.cells #[.int .i64 n0, .int .u32 p0, .int .u32 p1, .int .u32 p2] 27)) W) => show Laid W from (HL.out.below hb3).below hW)
        have HBF := Lib.hid (fun W (hW : Below (w2.alloc (.cells #[.int .i64 n0, .int .u32 p0, .int .u32 p1, .int .u32 p2] 27)).heap.size (w2.alloc (.cells #[.int .i64 n0, .int .u32 p0, .int .u32 p1, .int .u32 p2] 27)) W) => show Below w.heap.size w W from hb3.trans (hW.mono hb3.size))
        have hK := Below.refl (w2.alloc (.cells #[.int .i64 n0, .int .u32 p0, .int .u32 p1, .int .u32 p2] 27)).heap.size (w2.alloc (.cells #[.int .i64 n0, .int .u32 p0, .int .u32 p1, .int .u32 p2] 27))
        clear hb3 hc3 hd3 hs3 HL
        obtain ⟨W3, hW3⟩ : ∃ W3, w2.alloc (.cells #[.int .i64 n0, .int .u32 p0, .int .u32 p1, .int .u32 p2] 27) = W3 := ⟨_, rfl⟩
        have HW3 := Lib.hid hW3
        rw [hW3] at HQ HLW HBF hK
        clear hW3
        have HEQ := fun W => eqCall n0 p0 p1 p2 W
        have H12 := Lib.hid (fun W (hW : Below W3.heap.size W3 W) => (name_any (HLW.out W hW) n).mono fun e w' h => show e = .returned (.string (kN (kR n))) ∧ Below W3.heap.size W3 w' from ⟨h.1, bl_step hW h.2⟩)
        have H9 := Lib.hid (fun W (hW : Below W3.heap.size W3 W) => (refName_any (w := W) n hlo).mono fun e w' h => show e = .returned (.string (kN (kR n))) ∧ Below W3.heap.size W3 w' from ⟨h.1, bl_step hW h.2⟩)
        have H13 := Lib.hid (fun W (hW : Below W3.heap.size W3 W) => (many_any (HLW.out W hW) n).mono fun e w' h => show e = .returned (.int .i64 (kM (kR n))) ∧ Below W3.heap.size W3 w' from ⟨h.1, bl_step hW h.2⟩)
        have H14 := Lib.hid (fun W => refMany_any (w := W) n)
        have H15 := Lib.hid (fun W (hW : Below W3.heap.size W3 W) => (byName_any (HLW.out W hW) s).mono fun e w' h => show e = .returned (.int .i64 (r : Int)) ∧ Below W3.heap.size W3 w' from by
          obtain ⟨r', h1, h2, h3⟩ := h
          rw [isName_one h2 HFN.out] at h1
          exact ⟨h1, bl_step hW h3⟩)
        have H16 := Lib.hid (fun W (hW : Below W3.heap.size W3 W) => (code_any (HLW.out W hW) code).mono fun e w' h => show e = .returned (.string (codeOf code)) ∧ Below W3.heap.size W3 w' from ⟨h.1, bl_step hW h.2⟩)
        have H17 := Lib.hid (fun W => refCode_any (w := W) code)
        have H18 := Lib.hid (fun W (hW : Below W3.heap.size W3 W) => (answer_any (HLW.out W hW) code).mono fun e w' h => show e = .returned (.int .u32 (ansOf code)) ∧ Below W3.heap.size W3 w' from ⟨h.1, bl_step hW h.2⟩)
        have H19 := Lib.hid (fun W => refAnswer_any (w := W) code)
        have H20 := Lib.hid (fun W (hW : Below W3.heap.size W3 W) => (failed_any (HLW.out W hW) x hx0 hx1).mono fun e w' h => show e = .returned (.int .i64 (failOf x)) ∧ Below W3.heap.size W3 w' from ⟨h.1, bl_step hW h.2⟩)
        have H21 := Lib.hid (fun W => refFailed_any (w := W) x hx0 hx1)
        generalize kN (kR n) = nm at *
        generalize kM (kR n) = km at *
        generalize codeOf code = cs at *
        generalize ansOf code = an at *
        generalize failOf x = fx at *
        clear HLW HFN
        go_wp2_with fail
        rw [HW3.out]
        go_wp2_with (first
          | (go_at_call 12; refine (H12.out _ ?_).mono ?_; (focus (repeat (first | assumption | exact Below.refl _ _ | refine Below.drew ?_))); rintro e W1 ⟨rfl, hW1⟩)
          | (go_at_call 9; refine (H9.out _ ?_).mono ?_; (focus (repeat (first | assumption | exact Below.refl _ _ | refine Below.drew ?_))); rintro e W1 ⟨rfl, hW1⟩)
          | (go_at_call 13; refine (H13.out _ ?_).mono ?_; (focus (repeat (first | assumption | exact Below.refl _ _ | refine Below.drew ?_))); rintro e W1 ⟨rfl, hW1⟩)
          | (go_at_call 14; refine (H14.out _).mono ?_; rintro e W1 ⟨rfl, rfl⟩)
          | (go_at_call 15; refine (H15.out _ ?_).mono ?_; (focus (repeat (first | assumption | exact Below.refl _ _ | refine Below.drew ?_))); rintro e W1 ⟨rfl, hW1⟩)
          | (go_at_call 16; refine (H16.out _ ?_).mono ?_; (focus (repeat (first | assumption | exact Below.refl _ _ | refine Below.drew ?_))); rintro e W1 ⟨rfl, hW1⟩)
          | (go_at_call 17; refine (H17.out _).mono ?_; rintro e W1 ⟨rfl, rfl⟩)
          | (go_at_call 18; refine (H18.out _ ?_).mono ?_; (focus (repeat (first | assumption | exact Below.refl _ _ | refine Below.drew ?_))); rintro e W1 ⟨rfl, hW1⟩)
          | (go_at_call 19; refine (H19.out _).mono ?_; rintro e W1 ⟨rfl, rfl⟩)
          | (go_at_call 20; refine (H20.out _ ?_).mono ?_; (focus (repeat (first | assumption | exact Below.refl _ _ | refine Below.drew ?_))); rintro e W1 ⟨rfl, hW1⟩; have hcc := HQ.out _ hW1; obtain ⟨⟨y0, y1, y2, y3, ylt⟩, z0, z1, z2, z3, zlt⟩ := hcc)
          | (go_at_call 21; refine (H21.out _).mono ?_; rintro e W1 ⟨rfl, rfl⟩))
        go_ret
        exact ⟨rfl, HBF.out _ (by assumption)⟩

theorem own : ownKnob Tryd.prog.godebug = none := by kernel_rfl
theorem laidOut : laidOutB Tryd.prog = true := by kernel_rfl

/-- The door's own heap meets what the row lists. -/
theorem door_met (os : Os) (args : Array Value) : laidMetH Tryd.prog Rows.callTellsRow.laid ((World.doorLaid Tryd.prog 400 os).forCall (fun _ _ => 0) ⟨#[], args, []⟩).memory :=
  laidMetH_of_parts3 (fuel := 8) (laidMet_of_run' 8 (by kernel_rfl) (by kernel_rfl)) (by kernel_rfl) (by kernel_rfl)

set_option maxRecDepth 100000 in
theorem lifted (os : Os) (started : os.Started) (H : Type) (enc : TypeId × Value → H) :
    ReturnsInHanded {} Tryd.checked os 3 .any (fun w args => (Rows.callTellsSpec.pre enc Tryd.prog Tryd.f3 [] false w args ∧ laidMetH Tryd.prog Rows.callTellsRow.laid w) ∧ sizedMet enc Tryd.prog Tryd.f3 (OpenSpec.ofChange Rows.callTellsSpec) false w args)
      (Rows.callTellsSpec.post enc Tryd.prog Tryd.f3 false true false false) := by
  refine returnsInHanded_of_change_and (C := Tryd.checked) (X := fun w _ => laidMetH Tryd.prog Rows.callTellsRow.laid w) (fun _ _ _ hh h => h.of_heap hh) own started (by kernel_rfl) Tryd.func3
    (ChangeSpec.witness_shaped (enc := enc) (C := Tryd.checked) (os := os) (X := fun w _ => laidMetH Tryd.prog Rows.callTellsRow.laid w) false (World.doorLaid Tryd.prog 400 os) #[.int .i64 0, .int .i64 0, .string ⟨#[]⟩, .int .u32 0, .agg #[.int .u32 0, .int .u32 0, .int .u32 0, .int .u32 0, .int .u32 0, .int .u32 0, .int .u32 0, .int .u32 0]] 8 rfl (World.shaped_of_RefB (by kernel_rfl) (by kernel_rfl)) (by kernel_rfl) (by kernel_rfl) (by kernel_rfl) (door_met os _)) ?_
  intro W base args ds gs before hval0 hW _ _ hL _
  have hval : ∀ (j : Nat) t v, Tryd.f3.params[j]? = some t → args[j]? = some v → Value.okWide Tryd.prog W .any base t v := hval0
  have hW' := hW
  obtain ⟨p, q, hA0, hV, rfl, hfz, hnd⟩ := hW
  have hA : DataW.TrodAll enc Tryd.prog W 0 (fun _ => true) true Tryd.f3.params.toList args.toList ds p := hA0
  rw [Tryd.params3] at hA hval
  obtain ⟨v0, v1, v2, v3, v4, d0, d1, d2, d3, d4, p0, p1, p2, p3, p4, rfl, rfl, rfl, h0, h1, h2, h3, h4⟩ := trodAll_five hA
  obtain ⟨n, rfl, _, _, wn⟩ := open_int Tryd.underlying3 (hval 0 3 v0 rfl rfl) h0
  obtain ⟨code, rfl, _, _, _⟩ := open_int Tryd.underlying3 (hval 1 3 v1 rfl rfl) h1
  obtain ⟨s, rfl, _, _, hs⟩ := open_string Tryd.underlying9 (hval 2 9 v2 rfl rfl) h2
  obtain ⟨x, rfl, _, _, wx⟩ := open_int Tryd.underlying22 (hval 3 22 v3 rfl rfl) h3
  obtain ⟨R, rfl, wR⟩ := open_ints_arr Tryd.underlying23 Tryd.underlying22 (by kernel_rfl) (by kernel_rfl) (hval 4 23 v4 rfl rfl) h4
  have hn : -9223372036854775808 ≤ n ∧ n ≤ 9223372036854775807 := by simpa [Lit.wf, IntKind.min, IntKind.max, IntKind.signed, IntKind.bits] using wn
  have hx : 0 ≤ x ∧ x ≤ 4294967295 := by simpa [Lit.wf, IntKind.min, IntKind.max, IntKind.signed, IntKind.bits] using wx
  have hR : 0 ≤ R 0 ∧ R 0 ≤ 4294967295 := by simpa [Lit.wf, IntKind.min, IntKind.max, IntKind.signed, IntKind.bits] using wR 0 (by omega)
  rw [MakeChecks.laidMetH_plain _ _ _ (by kernel_rfl)] at hL
  have hLaid := laid_of hL (by simp [Rows.callTellsRow]) (by simp [Rows.callTellsRow])
  refine (walk hLaid n code hn.1 s hs x hx.1 hx.2 R hR).mono fun e W' ⟨he, hb⟩ => ?_
  subst he
  exact ⟨_, rfl, law_post (tb := 4) laidOut (by kernel_rfl) rfl rfl Tryd.underlying4 hW' (fun _ => rfl) hb⟩

theorem row_holds : Rows.CallTellsSaid :=
  OpenClaim.holds_of_wide 3 Tryd.f3 rfl rfl rfl rfl rfl rfl rfl ⟨rfl, rfl, rfl, rfl, rfl⟩ rfl rfl rfl rfl rfl (by kernel_rfl) Tryd.func3 (by kernel_rfl)
    (of_decide_eq_true (by kernel_rfl)) (by unfold Func.isWrapper; first | (rw [if_pos (by decide +kernel)]; kernel_rfl) | (rw [if_neg (by decide +kernel)]; exact ⟨rfl, rfl⟩))
    (fun os started H enc _ => lifted os started H enc)

/-- THE TIED CARD. -/
theorem holds : Rows.CallTellsCardSaid :=
  Claim7.holds_tied_plain_at .later [] [.data, .data] true (true, "35df71ac241aca937c09b5bbbd158f3b59107e6994d8058cad934fffc9d3e923") true
    row_holds (fun _ h => by cases h) (by kernel_rfl) (fun _ h => by cases h) callTells_row_tie rfl ⟨rfl, rfl⟩ (by kernel_rfl) rfl
    (fun f fn hf hfn => by
      obtain rfl : f = 3 := Option.some.inj ((show Tryd.prog.funcNamed "carryall/carryalllaw16.CallTells" = some 3 by kernel_rfl).symm.trans hf) |>.symm
      obtain rfl : fn = Tryd.f3 := (Option.some.inj (Tryd.func3.symm.trans hfn)).symm
      exact ⟨by kernel_rfl, fun j t ht => by
        rw [Tryd.params3] at ht
        have hm : t ∈ [3, 3, 9, 22, 23] := by simpa using Array.mem_of_getElem? ht
        have hall : ([3, 3, 9, 22, 23].all fun u => !Tryd.prog.wantsStandIn u) = true := by kernel_rfl
        exact (show Tryd.prog.wantsStandIn t = false by simpa using List.all_eq_true.1 hall t hm)⟩)
    (by kernel_rfl)
end Go.Proofs.YthmjddnccgiinaaDoor.lawCallTells
