/-
  Two boots are the same; the chapter's first examples hold. Condition: the tables lie as the program's text, and the library's, lay them.
-/
import Derived.Test.YtpikgebfeleajaaGreatDoorBoX
import Derived.Test.YtpikgebfeleajaaGreatDoorBoS
namespace Go.Proofs.YtpikgebfeleajaaGreatDoor
open Go.RowKit Go.Shelf
set_option linter.unusedVariables false
set_option linter.unusedSimpArgs false
attribute [local go_sem] Oper.semAt_some

set_option maxRecDepth 100000 in
set_option maxHeartbeats 4000000 in
theorem sameB_any {w : World} (c f p q : Int) (A B : Option Addr) (ca cb : Nat) (ws : List Int) (hA : I.WordsAt w A ws) (hB : I.WordsAt w B ws) (hl : ws.length ≤ 1000000) :
    Calls Tryz.prog 11 #[bootV c f p q A ws.length ca, bootV c f p q B ws.length cb] w fun e w' => e = .returned (.bool true) ∧ Below w.heap.size w w' := by
  have hb0 : Below w.heap.size w ((w.alloc (.cells #[.int .i64 c, .int .i64 f, .int .i64 p, .int .i64 q, .slice A ws.length ca] 24)).alloc (.cells #[.int .i64 c, .int .i64 f, .int .i64 p, .int .i64 q, .slice B ws.length cb] 24)) := ((Below.refl w.heap.size w).alloc (Nat.le_refl _) _).alloc (by simp) _
  have hx := (Blk.new w 24 #[.int .i64 c, .int .i64 f, .int .i64 p, .int .i64 q, .slice A ws.length ca]).alloc (.cells #[.int .i64 c, .int .i64 f, .int .i64 p, .int .i64 q, .slice B ws.length cb] 24)
  have hy := Blk.new (w.alloc (.cells #[.int .i64 c, .int .i64 f, .int .i64 p, .int .i64 q, .slice A ws.length ca] 24)) 24 #[.int .i64 c, .int .i64 f, .int .i64 p, .int .i64 q, .slice B ws.length cb]
  rw [World.size_alloc] at hy
  have HS := Lib.hid (fun W (hW : Below w.heap.size w W) => show Calls Tryz.prog 32 #[.slice A ws.length ca, .slice B ws.length cb] W fun e w' => e = .returned (.bool true) ∧ Below W.heap.size W w' from by
    have h := sameW_any A B ca cb ws ws (hA.below hW) (hB.below hW) hl hl
    rw [decide_eq_true rfl] at h
    exact h)
  unfold bootV
  have HX := Lib.hid hx
  have HY := Lib.hid hy
  have HB0 := Lib.hid hb0
  clear hA hB hl hx hy hb0
  obtain ⟨x0, x1, x2, x3, x4, xlt⟩ := rcells' HX.out
  obtain ⟨y0, y1, y2, y3, y4, ylt⟩ := rcells' HY.out
  go_enter Tryz.func11, Tryz.ntmps11
  go_wp2_with fail
  refine (HS.out _ HB0.out).mono ?_
  rintro e W1 ⟨rfl, hb1⟩
  clear x0 x1 x2 x3 x4 xlt y0 y1 y2 y3 y4 ylt
  obtain ⟨x0, x1, x2, x3, x4, xlt⟩ := rcells' (HX.out.below hb1 HX.out.lt)
  obtain ⟨y0, y1, y2, y3, y4, ylt⟩ := rcells' (HY.out.below hb1 HY.out.lt)
  have HB1 := Lib.hid (bl_step HB0.out hb1)
  clear hb1
  go_wp2
  go_ret
  exact ⟨by first | rfl | simp, HB1.out⟩

theorem results_row {P : Program} {fn : Func} {p : Tmp} {ty : TypeId} (h : fn.results = #[.cell p ty]) (tmps : Array Value) {w : World} {g : Nat} {t : TypeId} {cs : Array Value} {d : TypeDesc}
    (hp : tmps.getD p undef = .pointer (some ⟨g, 0, none⟩)) (hg : Blk w g t cs) (hu : P.underlying ty = some d) (hd : (match d with | .struct _ | .array _ _ => true | _ => false) = true) (hi : (P.info? ty).map (·.size) = some cs.size) :
    (results fn tmps).run P w = .ok (.agg cs) w := by
  have hl := run_loadVar_row (P := P) w g t ty cs (0, 0) d hg hu hd hi
  simp only [results, h]
  simp only [Array.getD_eq_getD_getElem?] at hp
  simp [Sem.run_bind, Result.andThen, hp, asAddr, hl]
/-! ## the chapter's boot -/
def headF (c f p q : Int) : List UInt8 := (wB 0 ++ 32 :: itoaF c) ++ 10 :: ((wB 1 ++ 32 :: itoaF f) ++ 10 :: ((wB 2 ++ 32 :: itoaF p) ++ 10 :: ((wB 3 ++ 32 :: itoaF q) ++ [10])))
theorem headF_eq {c f p q : Int} (h : InB c f p q) : headF c f p q = headT c f p q := by
  obtain ⟨hc, hf, hp, hq⟩ := h
  unfold headF headT lineB
  rw [itoaF_eq (by omega) (by omega), itoaF_eq (by omega) (by omega), itoaF_eq (by omega) (by omega), itoaF_eq (by omega) (by omega)]
theorem inB_some : InB 2 16 4 8 := by unfold InB; decide
def wholeL : List UInt8 := [99, 111, 114, 101, 115, 32, 50, 10, 102, 114, 97, 109, 101, 115, 32, 49, 54, 10, 112, 114, 111, 99, 115, 32, 52, 10, 112, 105, 112, 101, 32, 56, 10, 115, 121, 115, 10]
theorem text_whole : textB 2 16 4 8 [402653184] = wholeL := by
  unfold textB
  rw [← headF_eq inB_some]
  decide +kernel
theorem ranges_some : ∀ x ∈ [(402653184 : Int)], I.RangeW x := by intro x hx; rw [List.mem_singleton.1 hx]; unfold I.RangeW; decide
theorem parse_whole : parseB wholeL = ((2, 16, 4, 8, [402653184]), 0, 0) := by
  rw [← text_whole]
  exact parse_text inB_some ranges_some (by decide) (by decide)
theorem some_any (w : World) : Calls Tryz.prog 19 #[] w fun e w' => ∃ A cap, e = .returned (bootV 2 16 4 8 A 1 cap) ∧ I.WordsAt w' A [402653184] ∧ Below w.heap.size w w' := by
  have hb0 := (Below.refl w.heap.size w).alloc (Nat.le_refl _) (.cells #[.int .i64 0, .int .i64 0, .int .i64 0, .int .i64 0, .slice none 0 0] 24)
  have hx := Blk.new w 24 #[.int .i64 0, .int .i64 0, .int .i64 0, .int .i64 0, .slice none 0 0]
  have hx1 := hx.alloc (.cells #[.int .u32 402653184] 41)
  have hs1 := Blk.new (w.alloc (.cells #[.int .i64 0, .int .i64 0, .int .i64 0, .int .i64 0, .slice none 0 0] 24)) 41 #[.int .u32 402653184]
  rw [World.size_alloc] at hs1
  have HX := Lib.hid hx1
  have HS := Lib.hid hs1
  have HB := Lib.hid (bl_new hb0 (.cells #[.int .u32 402653184] 41))
  have f0 := hx1.frozen 0
  have f1 := hx1.frozen 1
  have f2 := hx1.frozen 2
  have f3 := hx1.frozen 3
  have f4 := hx1.frozen 4
  obtain ⟨x0, x1, x2, x3, x4, xlt⟩ := rcells' hx1
  clear hb0 hx hx1 hs1
  go_enter Tryz.func19, Tryz.ntmps19
  go_wp2
  refine bodyPost_ret (results_row Tryz.results19 _ rfl ((Blk.new w 24 #[.int .i64 2, .int .i64 16, .int .i64 4, .int .i64 8, .slice (some ⟨w.heap.size + 1, 0, none⟩) 1 1]).alloc _) Tryz.underlying24 rfl (by kernel_rfl)) rfl ⟨some ⟨w.heap.size + 1, 0, none⟩, 1, rfl, ?_, bl_new ((Below.refl w.heap.size w).alloc (Nat.le_refl _) _) _⟩
  have hs := Blk.new (w.alloc (.cells #[.int .i64 2, .int .i64 16, .int .i64 4, .int .i64 8, .slice (some ⟨w.heap.size + 1, 0, none⟩) 1 1] 24)) 41 #[.int .u32 402653184]
  rw [World.size_alloc] at hs
  intro i r hr
  match i with
  | 0 =>
    injection hr with hr
    subst hr
    refine ⟨w.heap.size + 1, 0, rfl, hs.lt, fun j v hv => ?_⟩
    match j with
    | 0 =>
      injection hv with hv
      subst hv
      exact (hs.cell 0).trans rfl
    | j + 1 => simp at hv
  | i + 1 => simp at hr

theorem text_any {w : World} (hG : GB w) (c f p q : Int) (A : Option Addr) (cap : Nat) (ws : List Int) (hA : I.WordsAt w A ws) (hr : ∀ x ∈ ws, I.RangeW x) (hl : ws.length ≤ 1000000) :
    Calls Tryz.prog 6 #[bootV c f p q A ws.length cap] w fun e w' => e = .returned (.tuple #[.string ⟨(if mayB c f p q ws.length then textB c f p q ws else []).toArray⟩, .int .i64 (if mayB c f p q ws.length then 0 else 190)]) ∧ Below w.heap.size w w' := by
  cases hm : mayB c f p q ws.length
  · exact text_no hG c f p q A ws.length cap hl hm
  · exact text_yes hG c f p q A cap ws hA hr hm
theorem parseOk_any {w : World} (hG : GB w) (s : ByteArray) (hs : s.size ≤ 1000000) {c f p q line er : Int} {ws : List Int} (h : parseB s.data.toList = ((c, f, p, q, ws), line, er)) :
    Calls Tryz.prog 8 #[.string s] w fun e w' => ∃ A cap, e = .returned (.tuple #[.agg #[.int .i64 c, .int .i64 f, .int .i64 p, .int .i64 q, .slice A ws.length cap], .int .i64 line, .int .i64 er]) ∧ I.WordsAt w' A ws ∧ Below w.heap.size w w' := by
  refine (parse_any hG s hs).mono fun e w' hR => ?_
  rw [h] at hR
  obtain ⟨A, cap, h1, h2, _, h3⟩ := hR
  exact ⟨A, cap, h1, h2, h3⟩
def wholeS : ByteArray := ⟨#[99, 111, 114, 101, 115, 32, 50, 10, 102, 114, 97, 109, 101, 115, 32, 49, 54, 10, 112, 114, 111, 99, 115, 32, 52, 10, 112, 105, 112, 101, 32, 56, 10, 115, 121, 115, 10]⟩

set_option maxRecDepth 100000 in
set_option maxHeartbeats 8000000 in
theorem alive_any {w : World} (hG : GB w) : Calls Tryz.prog 13 #[] w fun e w' => e = .returned (.bool true) ∧ Below w.heap.size w w' := by
  have HS := Lib.hid (fun W => some_any W)
  have HT := Lib.hid (fun W (hW : Below w.heap.size w W) A cap (hA : I.WordsAt W A [402653184]) => show Calls Tryz.prog 6 #[.agg #[.int .i64 2, .int .i64 16, .int .i64 4, .int .i64 8, .slice A 1 cap]] W fun e w' => e = .returned (.tuple #[.string ⟨#[99, 111, 114, 101, 115, 32, 50, 10, 102, 114, 97, 109, 101, 115, 32, 49, 54, 10, 112, 114, 111, 99, 115, 32, 52, 10, 112, 105, 112, 101, 32, 56, 10, 115, 121, 115, 10]⟩, .int .i64 0]) ∧ Below W.heap.size W w' from by
    have h := text_yes (hG.below hW) 2 16 4 8 A cap [402653184] hA ranges_some (by decide)
    rw [text_whole] at h
    exact h)
  have HP := Lib.hid (fun W (hW : Below w.heap.size w W) => parseOk_any (hG.below hW) ⟨#[99, 111, 114, 101, 115, 32, 50, 10, 102, 114, 97, 109, 101, 115, 32, 49, 54, 10, 112, 114, 111, 99, 115, 32, 52, 10, 112, 105, 112, 101, 32, 56, 10, 115, 121, 115, 10]⟩ (by decide) parse_whole)
  have HSM := Lib.hid (fun W A B ca cb (hA : I.WordsAt W A [402653184]) (hB : I.WordsAt W B [402653184]) => show Calls Tryz.prog 11 #[.agg #[.int .i64 2, .int .i64 16, .int .i64 4, .int .i64 8, .slice A 1 ca], .agg #[.int .i64 2, .int .i64 16, .int .i64 4, .int .i64 8, .slice B 1 cb]] W fun e w' => e = .returned (.bool true) ∧ Below W.heap.size W w' from
    sameB_any 2 16 4 8 A B ca cb [402653184] hA hB (by decide))
  unfold bootV at HS
  simp only [List.length_cons, List.length_nil, Nat.zero_add] at HP
  clear hG
  go_enter Tryz.func13, Tryz.ntmps13
  go_wp2_with fail
  refine (HS.out _).mono ?_
  rintro e W1 ⟨A1, c1, rfl, hA1, hb1⟩
  go_wp2_with fail
  refine (HT.out _ hb1 A1 c1 hA1).mono ?_
  rintro e W2 ⟨rfl, hb2⟩
  have HB2 := Lib.hid (bl_step hb1 hb2)
  clear hA1 hb1 hb2
  go_wp2_with fail
  refine (HP.out _ HB2.out).mono ?_
  rintro e W3 ⟨A3, c3, rfl, hA3, hb3⟩
  have hx := Blk.new W3 24 #[.int .i64 2, .int .i64 16, .int .i64 4, .int .i64 8, .slice A3 1 c3]
  have hw4 := hA3.below ((Below.refl W3.heap.size W3).alloc (Nat.le_refl _) (.cells #[.int .i64 2, .int .i64 16, .int .i64 4, .int .i64 8, .slice A3 1 c3] 24))
  have HB4 := Lib.hid (bl_new (bl_step HB2.out hb3) (.cells #[.int .i64 2, .int .i64 16, .int .i64 4, .int .i64 8, .slice A3 1 c3] 24))
  obtain ⟨W4, hW4⟩ : ∃ W4, W3.alloc (.cells #[.int .i64 2, .int .i64 16, .int .i64 4, .int .i64 8, .slice A3 1 c3] 24) = W4 := ⟨_, rfl⟩
  rw [hW4] at hx hw4 HB4
  have HX := Lib.hid hx
  have HW := Lib.hid (fun W (hW : Below W4.heap.size W4 W) => hw4.below hW)
  have HC := Lib.hid (fun W (hW : Below W4.heap.size W4 W) => rcells' (hx.below hW hx.lt))
  have HST := Lib.hid (fun W (hW : Below W4.heap.size W4 W) => show Calls Tryz.prog 19 #[] W fun e w' => ∃ A cap, e = .returned (.agg #[.int .i64 2, .int .i64 16, .int .i64 4, .int .i64 8, .slice A 1 cap]) ∧ I.WordsAt w' A [402653184] ∧ Below W4.heap.size W4 w' from (HS.out W).mono fun e w' ⟨A, cap, he, hA, hb⟩ => ⟨A, cap, he, hA, bl_step hW hb⟩)
  have HSN := Lib.hid (fun W B cb (hW : Below W4.heap.size W4 W) (hB : I.WordsAt W B [402653184]) => show Calls Tryz.prog 11 #[.agg #[.int .i64 2, .int .i64 16, .int .i64 4, .int .i64 8, .slice A3 1 c3], .agg #[.int .i64 2, .int .i64 16, .int .i64 4, .int .i64 8, .slice B 1 cb]] W fun e w' => e = .returned (.bool true) ∧ Below W4.heap.size W4 w' from (HSM.out W A3 B c3 cb (hw4.below hW) hB).mono fun e w' ⟨he, hb⟩ => ⟨he, bl_step hW hb⟩)
  have hBc := Below.refl W4.heap.size W4
  obtain ⟨x0, x1, x2, x3, x4, xlt⟩ := rcells' hx
  clear hA3 hb3 hx hw4 HS HT HP HSM HB2
  go_wp2_with fail
  go_region_held3 (fun W => W.cell? ⟨W3.heap.size, 0, none⟩ = some (.int .i64 2) ∧ W.cell? ⟨W3.heap.size, 1, none⟩ = some (.int .i64 16) ∧ W.cell? ⟨W3.heap.size, 2, none⟩ = some (.int .i64 4) ∧ W.cell? ⟨W3.heap.size, 3, none⟩ = some (.int .i64 8) ∧ W.cell? ⟨W3.heap.size, 4, none⟩ = some (.slice A3 1 c3))
    (first | exact (have h : Below W4.heap.size W4 _ := (by repeat (first | assumption | refine Below.drew ?_)); have k := HC.out _ h; ⟨k.1, k.2.1, k.2.2.1, k.2.2.2.1, k.2.2.2.2.1⟩))
    (first
      | (go_at_call 19; refine (HST.out _ ?_).mono ?_; (focus (repeat (first | assumption | refine Below.drew ?_))); rintro e V1 ⟨A5, c5, rfl, hA5, hV1⟩)
      | (go_at_call 11; refine (HSN.out _ _ _ ?_ (by assumption)).mono ?_; (focus (repeat (first | assumption | refine Below.drew ?_))); rintro e V2 ⟨rfl, hV2⟩))
  rename World => wn
  have hbn : Below W4.heap.size W4 wn := by assumption
  have HBN := Lib.hid (bl_step HB4.out hbn)
  go_wp2
  go_ret
  exact ⟨by first | rfl | simp, HBN.out⟩
end Go.Proofs.YtpikgebfeleajaaGreatDoor
