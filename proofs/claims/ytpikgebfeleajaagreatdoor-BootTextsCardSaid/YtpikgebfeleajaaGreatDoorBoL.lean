/-
  boot.Same: two boots are the same. Condition: the tables lie as the program's text, and the library's, lay them.
-/
import Derived.Test.YtpikgebfeleajaaGreatDoorIsE
import Derived.Test.YtpikgebfeleajaaGreatDoorBoX
import Derived.BigQuiet
namespace Go.Proofs.YtpikgebfeleajaaGreatDoor
section
open Go.RowKit Go.Shelf
set_option linter.unusedVariables false
set_option linter.unusedSimpArgs false
attribute [local go_sem] Oper.semAt_some

set_option maxHeartbeats 1000000 in
theorem sameW_any {w : World} (A B : Option Addr) (ca cb : Nat) (xs ys : List Int) (hx : I.WordsAt w A xs) (hy : I.WordsAt w B ys) (hxl : xs.length ≤ 1000000) (hyl : ys.length ≤ 1000000) :
    Calls Tryz.prog 32 #[.slice A xs.length ca, .slice B ys.length cb] w fun e w' => e = .returned (.bool (decide (xs = ys))) ∧ Below w.heap.size w w' := by
  by_cases hlen : xs.length = ys.length
  · go_enter Tryz.func32, Tryz.ntmps32
    have hb : ((xs.length : Int) != (ys.length : Int)) = false := by simp [hlen]
    have HL := Lib.hid hlen
    clear hlen
    go_wp2
    go_loopw [5] (fun i wr => ∃ k : Nat, i = .int .i64 (k : Int) ∧ k ≤ xs.length ∧ (∀ j, j < k → xs[j]? = ys[j]?) ∧ Below w.heap.size w wr) (fun i _ => xs.length - (intOf i).toNat)
    case atStart => exact ⟨0, rfl, Nat.zero_le _, fun j hj => absurd hj (Nat.not_lt_zero j), Below.refl _ _⟩
    case round =>
      obtain ⟨k, rfl, hk, hpre, hB⟩ := hrel
      have HP := Lib.hid hpre
      clear hpre
      by_cases hki : k < xs.length
      · have hkb : (k : Int) < (xs.length : Int) := by omega
        have hlen := HL.out
        have hkb2 : (k : Int) < (ys.length : Int) := by omega
        have hxe : xs[k]? = some xs[k] := List.getElem?_eq_getElem hki
        have hye : ys[k]? = some (ys[k]'(by omega)) := List.getElem?_eq_getElem (by omega)
        obtain ⟨b, off, rfl, hbl, c0⟩ := I.wordsAt_cell (hx.below hB) hxe
        obtain ⟨b', off', rfl, hbl', d0⟩ := I.wordsAt_cell (hy.below hB) hye
        by_cases hxy : xs[k] = ys[k]'(by omega)
        · have hnx : ∀ j, j < k + 1 → xs[j]? = ys[j]? := fun j hj => by
            rcases Nat.lt_or_ge j k with h | h
            · exact HP.out j h
            · have : j = k := by omega
              subst this
              rw [hxe, hye, hxy]
          have HN := Lib.hid hnx
          generalize xs[k] = x at *
          generalize ys[k]'(by omega) = y at *
          have hb1 : (x != y) = false := by simp [hxy]
          clear hnx hxe hye hxy hlen hx hy
          go_wp2_with (go_quiet (fail))
          go_roundw
          case rel => exact ⟨k + 1, by go_num, by omega, HN.out, by first | exact hB | exact belowN hB _ | exact hB.drew⟩
          case measure => simp [intOf]; omega
        · have hne : decide (xs = ys) = false := decide_eq_false fun h => hxy (by subst h; rfl)
          have HNE := Lib.hid hne
          generalize xs[k] = x at *
          generalize ys[k]'(by omega) = y at *
          have hb1 : (x != y) = true := by simp [hxy]
          clear hxe hye hxy hlen hx hy hne
          go_wp2_with (go_quiet (fail))
          go_ret
          exact ⟨by rw [HNE.out]; rfl, by first | exact hB | exact belowN hB _ | exact hB.drew⟩
      · have hlen := HL.out
        have hxy : xs = ys := by
          apply List.ext_getElem?
          intro j
          rcases Nat.lt_or_ge j k with h | h
          · exact HP.out j h
          · rw [List.getElem?_eq_none (by omega), List.getElem?_eq_none (by omega)]
        have hd : decide (xs = ys) = true := decide_eq_true hxy
        have HD := Lib.hid hd
        clear hd hxy hlen
        go_wp2
        go_ret
        exact ⟨by rw [HD.out]; rfl, hB⟩
  · have hne : decide (xs = ys) = false := by simp; intro h; exact hlen (by rw [h])
    rw [hne]
    have hb : ((xs.length : Int) != (ys.length : Int)) = true := by simp; omega
    clear hlen hne hx hy
    go_enter Tryz.func32, Tryz.ntmps32
    go_wp2
    go_ret
    exact ⟨rfl, Below.refl _ _⟩
end
end Go.Proofs.YtpikgebfeleajaaGreatDoor
namespace Go.Proofs.YtpikgebfeleajaaGreatDoor
section
open Go.RowKit Go.Shelf
set_option linter.unusedVariables false
set_option linter.unusedSimpArgs false
attribute [local go_sem] Oper.semAt_some

set_option maxRecDepth 100000 in
set_option maxHeartbeats 4000000 in
theorem sameB_any {w : World} (c f p q : Int) (A B : Option Addr) (ca cb : Nat) (ws : List Int) (hA : I.WordsAt w A ws) (hB : I.WordsAt w B ws) (hl : ws.length ≤ 1000000) :
    Calls Tryz.prog 11 #[bootV c f p q A ws.length ca, bootV c f p q B ws.length cb] w fun e w' => e = .returned (.bool true) ∧ Below w.heap.size w w' := by
  have hb0 : Below w.heap.size w ((w.alloc (.cells #[.int .i64 c, .int .i64 f, .int .i64 p, .int .i64 q, .slice A ws.length ca] 24)).alloc (.cells #[.int .i64 c, .int .i64 f, .int .i64 p, .int .i64 q, .slice B ws.length cb] 24)) := ((Below.refl w.heap.size w).alloc (Nat.le_refl _) _).alloc (by simp) _
  have hx := (Blk.new w 24 #[.int .i64 c, .int .i64 f, .int .i64 p, .int .i64 q, .slice A ws.length ca]).alloc (.cells #[.int .i64 c, .int .i64 f, .int .i64 p, .int .i64 q, .slice B ws.length cb] 24)
  have hy := Blk.new (w.alloc (.cells #[.int .i64 c, .int .i64 f, .int .i64 p, .int .i64 q, .slice A ws.length ca] 24)) 24 #[.int .i64 c, .int .i64 f, .int .i64 p, .int .i64 q, .slice B ws.length cb]
  rw [World.size_alloc] at hy
  have HS := Lib.hid (fun W (hW : Below w.heap.size w W) => show Calls Tryz.prog 32 #[.slice A ws.length ca, .slice B ws.length cb] W fun e w' => e = .returned (.bool true) ∧ Below W.heap.size W w' from by
    have h := sameW_any A B ca cb ws ws (hA.below hW) (hB.below hW) hl hl
    rw [decide_eq_true rfl] at h
    exact h)
  unfold bootV
  have HX := Lib.hid hx
  have HY := Lib.hid hy
  have HB0 := Lib.hid hb0
  clear hA hB hl hx hy hb0
  obtain ⟨x0, x1, x2, x3, x4, xlt⟩ := rcells' HX.out
  obtain ⟨y0, y1, y2, y3, y4, ylt⟩ := rcells' HY.out
  go_enter Tryz.func11, Tryz.ntmps11
  go_wp2_with fail
  refine (HS.out _ HB0.out).mono ?_
  rintro e W1 ⟨rfl, hb1⟩
  clear x0 x1 x2 x3 x4 xlt y0 y1 y2 y3 y4 ylt
  obtain ⟨x0, x1, x2, x3, x4, xlt⟩ := rcells' (HX.out.below hb1 HX.out.lt)
  obtain ⟨y0, y1, y2, y3, y4, ylt⟩ := rcells' (HY.out.below hb1 HY.out.lt)
  have HB1 := Lib.hid (bl_step HB0.out hb1)
  clear hb1
  go_wp2
  go_ret
  exact ⟨by first | rfl | simp, HB1.out⟩

theorem results_row {P : Program} {fn : Func} {p : Tmp} {ty : TypeId} (h : fn.results = #[.cell p ty]) (tmps : Array Value) {w : World} {g : Nat} {t : TypeId} {cs : Array Value} {d : TypeDesc}
    (hp : tmps.getD p undef = .pointer (some ⟨g, 0, none⟩)) (hg : Blk w g t cs) (hu : P.underlying ty = some d) (hd : (match d with | .struct _ | .array _ _ => true | _ => false) = true) (hi : (P.info? ty).map (·.size) = some cs.size) :
    (results fn tmps).run P w = .ok (.agg cs) w := by
  have hl := run_loadVar_row (P := P) w g t ty cs (0, 0) d hg hu hd hi
  simp only [results, h]
  simp only [Array.getD_eq_getD_getElem?] at hp
  simp [Sem.run_bind, Result.andThen, hp, asAddr, hl]
/-! ## the chapter's boot -/
def headF (c f p q : Int) : List UInt8 := (wB 0 ++ 32 :: itoaF c) ++ 10 :: ((wB 1 ++ 32 :: itoaF f) ++ 10 :: ((wB 2 ++ 32 :: itoaF p) ++ 10 :: ((wB 3 ++ 32 :: itoaF q) ++ [10])))
theorem headF_eq {c f p q : Int} (h : InB c f p q) : headF c f p q = headT c f p q := by
  obtain ⟨hc, hf, hp, hq⟩ := h
  unfold headF headT lineB
  rw [itoaF_eq (by omega) (by omega), itoaF_eq (by omega) (by omega), itoaF_eq (by omega) (by omega), itoaF_eq (by omega) (by omega)]
theorem inB_some : InB 2 16 4 8 := by unfold InB; decide
def wholeL : List UInt8 := [99, 111, 114, 101, 115, 32, 50, 10, 102, 114, 97, 109, 101, 115, 32, 49, 54, 10, 112, 114, 111, 99, 115, 32, 52, 10, 112, 105, 112, 101, 32, 56, 10, 115, 121, 115, 10]
theorem text_whole : textB 2 16 4 8 [402653184] = wholeL := by
  unfold textB
  rw [← headF_eq inB_some]
  decide +kernel
theorem ranges_some : ∀ x ∈ [(402653184 : Int)], I.RangeW x := by intro x hx; rw [List.mem_singleton.1 hx]; unfold I.RangeW; decide
theorem parse_whole : parseB wholeL = ((2, 16, 4, 8, [402653184]), 0, 0) := by
  rw [← text_whole]
  exact parse_text inB_some ranges_some (by decide) (by decide)
theorem some_any (w : World) : Calls Tryz.prog 19 #[] w fun e w' => ∃ A cap, e = .returned (bootV 2 16 4 8 A 1 cap) ∧ I.WordsAt w' A [402653184] ∧ Below w.heap.size w w' := by
  have hb0 := (Below.refl w.heap.size w).alloc (Nat.le_refl _) (.cells #[.int .i64 0, .int .i64 0, .int .i64 0, .int .i64 0, .slice none 0 0] 24)
  have hx := Blk.new w 24 #[.int .i64 0, .int .i64 0, .int .i64 0, .int .i64 0, .slice none 0 0]
  have hx1 := hx.alloc (.cells #[.int .u32 402653184] 41)
  have hs1 := Blk.new (w.alloc (.cells #[.int .i64 0, .int .i64 0, .int .i64 0, .int .i64 0, .slice none 0 0] 24)) 41 #[.int .u32 402653184]
  rw [World.size_alloc] at hs1
  have HX := Lib.hid hx1
  have HS := Lib.hid hs1
  have HB := Lib.hid (bl_new hb0 (.cells #[.int .u32 402653184] 41))
  have f0 := hx1.frozen 0
  have f1 := hx1.frozen 1
  have f2 := hx1.frozen 2
  have f3 := hx1.frozen 3
  have f4 := hx1.frozen 4
  obtain ⟨x0, x1, x2, x3, x4, xlt⟩ := rcells' hx1
  clear hb0 hx hx1 hs1
  go_enter Tryz.func19, Tryz.ntmps19
  go_wp2
  refine bodyPost_ret (results_row Tryz.results19 _ rfl ((Blk.new w 24 #[.int .i64 2, .int .i64 16, .int .i64 4, .int .i64 8, .slice (some ⟨w.heap.size + 1, 0, none⟩) 1 1]).alloc _) Tryz.underlying24 rfl (by kernel_rfl)) rfl ⟨some ⟨w.heap.size + 1, 0, none⟩, 1, rfl, ?_, bl_new ((Below.refl w.heap.size w).alloc (Nat.le_refl _) _) _⟩
  have hs := Blk.new (w.alloc (.cells #[.int .i64 2, .int .i64 16, .int .i64 4, .int .i64 8, .slice (some ⟨w.heap.size + 1, 0, none⟩) 1 1] 24)) 41 #[.int .u32 402653184]
  rw [World.size_alloc] at hs
  intro i r hr
  match i with
  | 0 =>
    injection hr with hr
    subst hr
    refine ⟨w.heap.size + 1, 0, rfl, hs.lt, fun j v hv => ?_⟩
    match j with
    | 0 =>
      injection hv with hv
      subst hv
      exact (hs.cell 0).trans rfl
    | j + 1 => simp at hv
  | i + 1 => simp at hr

theorem text_any {w : World} (hG : GB w) (c f p q : Int) (A : Option Addr) (cap : Nat) (ws : List Int) (hA : I.WordsAt w A ws) (hr : ∀ x ∈ ws, I.RangeW x) (hl : ws.length ≤ 1000000) :
    Calls Tryz.prog 6 #[bootV c f p q A ws.length cap] w fun e w' => e = .returned (.tuple #[.string ⟨(if mayB c f p q ws.length then textB c f p q ws else []).toArray⟩, .int .i64 (if mayB c f p q ws.length then 0 else 190)]) ∧ Below w.heap.size w w' := by
  cases hm : mayB c f p q ws.length
  · exact text_no hG c f p q A ws.length cap hl hm
  · exact text_yes hG c f p q A cap ws hA hr hm
theorem parseOk_any {w : World} (hG : GB w) (s : ByteArray) (hs : s.size ≤ 1000000) {c f p q line er : Int} {ws : List Int} (h : parseB s.data.toList = ((c, f, p, q, ws), line, er)) :
    Calls Tryz.prog 8 #[.string s] w fun e w' => ∃ A cap, e = .returned (.tuple #[.agg #[.int .i64 c, .int .i64 f, .int .i64 p, .int .i64 q, .slice A ws.length cap], .int .i64 line, .int .i64 er]) ∧ I.WordsAt w' A ws ∧ Below w.heap.size w w' := by
  refine (parse_any hG s hs).mono fun e w' hR => ?_
  rw [h] at hR
  obtain ⟨A, cap, h1, h2, _, h3⟩ := hR
  exact ⟨A, cap, h1, h2, h3⟩
def wholeS : ByteArray := ⟨#[99, 111, 114, 101, 115, 32, 50, 10, 102, 114, 97, 109, 101, 115, 32, 49, 54, 10, 112, 114, 111, 99, 115, 32, 52, 10, 112, 105, 112, 101, 32, 56, 10, 115, 121, 115, 10]⟩

set_option maxRecDepth 100000 in
set_option maxHeartbeats 8000000 in
theorem alive_any {w : World} (hG : GB w) : Calls Tryz.prog 13 #[] w fun e w' => e = .returned (.bool true) ∧ Below w.heap.size w w' := by
  have HS := Lib.hid (fun W => some_any W)
  have HT := Lib.hid (fun W (hW : Below w.heap.size w W) A cap (hA : I.WordsAt W A [402653184]) => show Calls Tryz.prog 6 #[.agg #[.int .i64 2, .int .i64 16, .int .i64 4, .int .i64 8, .slice A 1 cap]] W fun e w' => e = .returned (.tuple #[.string ⟨#[99, 111, 114, 101, 115, 32, 50, 10, 102, 114, 97, 109, 101, 115, 32, 49, 54, 10, 112, 114, 111, 99, 115, 32, 52, 10, 112, 105, 112, 101, 32, 56, 10, 115, 121, 115, 10]⟩, .int .i64 0]) ∧ Below W.heap.size W w' from by
    have h := text_yes (hG.below hW) 2 16 4 8 A cap [402653184] hA ranges_some (by decide)
    rw [text_whole] at h
    exact h)
  have HP := Lib.hid (fun W (hW : Below w.heap.size w W) => parseOk_any (hG.below hW) ⟨#[99, 111, 114, 101, 115, 32, 50, 10, 102, 114, 97, 109, 101, 115, 32, 49, 54, 10, 112, 114, 111, 99, 115, 32, 52, 10, 112, 105, 112, 101, 32, 56, 10, 115, 121, 115, 10]⟩ (by decide) parse_whole)
  have HSM := Lib.hid (fun W A B ca cb (hA : I.WordsAt W A [402653184]) (hB : I.WordsAt W B [402653184]) => show Calls Tryz.prog 11 #[.agg #[.int .i64 2, .int .i64 16, .int .i64 4, .int .i64 8, .slice A 1 ca], .agg #[.int .i64 2, .int .i64 16, .int .i64 4, .int .i64 8, .slice B 1 cb]] W fun e w' => e = .returned (.bool true) ∧ Below W.heap.size W w' from
    sameB_any 2 16 4 8 A B ca cb [402653184] hA hB (by decide))
  unfold bootV at HS
  simp only [List.length_cons, List.length_nil, Nat.zero_add] at HP
  clear hG
  go_enter Tryz.func13, Tryz.ntmps13
  go_wp2_with fail
  refine (HS.out _).mono ?_
  rintro e W1 ⟨A1, c1, rfl, hA1, hb1⟩
  go_wp2_with fail
  refine (HT.out _ hb1 A1 c1 hA1).mono ?_
  rintro e W2 ⟨rfl, hb2⟩
  have HB2 := Lib.hid (bl_step hb1 hb2)
  clear hA1 hb1 hb2
  go_wp2_with fail
  refine (HP.out _ HB2.out).mono ?_
  rintro e W3 ⟨A3, c3, rfl, hA3, hb3⟩
  have hx := Blk.new W3 24 #[.int .i64 2, .int .i64 16, .int .i64 4, .int .i64 8, .slice A3 1 c3]
  have hw4 := hA3.below ((Below.refl W3.heap.size W3).alloc (Nat.le_refl _) (.cells #[.int .i64 2, .int .i64 16, .int .i64 4, .int .i64 8, .slice A3 1 c3] 24))
  have HB4 := Lib.hid (bl_new (bl_step HB2.out hb3) (.cells #[.int .i64 2, .int .i64 16, .int .i64 4, .int .i64 8, .slice A3 1 c3] 24))
  obtain ⟨W4, hW4⟩ : ∃ W4, W3.alloc (.cells #[.int .i64 2, .int .i64 16, .int .i64 4, .int .i64 8, .slice A3 1 c3] 24) = W4 := ⟨_, rfl⟩
  rw [hW4] at hx hw4 HB4
  have HX := Lib.hid hx
  have HW := Lib.hid (fun W (hW : Below W4.heap.size W4 W) => hw4.below hW)
  have HC := Lib.hid (fun W (hW : Below W4.heap.size W4 W) => rcells' (hx.below hW hx.lt))
  have HST := Lib.hid (fun W (hW : Below W4.heap.size W4 W) => show Calls Tryz.prog 19 #[] W fun e w' => ∃ A cap, e = .returned (.agg #[.int .i64 2, .int .i64 16, .int .i64 4, .int .i64 8, .slice A 1 cap]) ∧ I.WordsAt w' A [402653184] ∧ Below W4.heap.size W4 w' from (HS.out W).mono fun e w' ⟨A, cap, he, hA, hb⟩ => ⟨A, cap, he, hA, bl_step hW hb⟩)
  have HSN := Lib.hid (fun W B cb (hW : Below W4.heap.size W4 W) (hB : I.WordsAt W B [402653184]) => show Calls Tryz.prog 11 #[.agg #[.int .i64 2, .int .i64 16, .int .i64 4, .int .i64 8, .slice A3 1 c3], .agg #[.int .i64 2, .int .i64 16, .int .i64 4, .int .i64 8, .slice B 1 cb]] W fun e w' => e = .returned (.bool true) ∧ Below W4.heap.size W4 w' from (HSM.out W A3 B c3 cb (hw4.below hW) hB).mono fun e w' ⟨he, hb⟩ => ⟨he, bl_step hW hb⟩)
  have hBc := Below.refl W4.heap.size W4
  obtain ⟨x0, x1, x2, x3, x4, xlt⟩ := rcells' hx
  clear hA3 hb3 hx hw4 HS HT HP HSM HB2
  go_wp2_with fail
  go_region_held3 (fun W => W.cell? ⟨W3.heap.size, 0, none⟩ = some (.int .i64 2) ∧ W.cell? ⟨W3.heap.size, 1, none⟩ = some (.int .i64 16) ∧ W.cell? ⟨W3.heap.size, 2, none⟩ = some (.int .i64 4) ∧ W.cell? ⟨W3.heap.size, 3, none⟩ = some (.int .i64 8) ∧ W.cell? ⟨W3.heap.size, 4, none⟩ = some (.slice A3 1 c3))
    (first | exact (have h : Below W4.heap.size W4 _ := (by repeat (first | assumption | refine Below.drew ?_)); have k := HC.out _ h; ⟨k.1, k.2.1, k.2.2.1, k.2.2.2.1, k.2.2.2.2.1⟩))
    (first
      | (go_at_call 19; refine (HST.out _ ?_).mono ?_; (focus (repeat (first | assumption | refine Below.drew ?_))); rintro e V1 ⟨A5, c5, rfl, hA5, hV1⟩)
      | (go_at_call 11; refine (HSN.out _ _ _ ?_ (by assumption)).mono ?_; (focus (repeat (first | assumption | refine Below.drew ?_))); rintro e V2 ⟨rfl, hV2⟩))
  rename World => wn
  have hbn : Below W4.heap.size W4 wn := by assumption
  have HBN := Lib.hid (bl_step HB4.out hbn)
  go_wp2
  go_ret
  exact ⟨by first | rfl | simp, HBN.out⟩
end
end Go.Proofs.YtpikgebfeleajaaGreatDoor
namespace Go.Proofs.YtpikgebfeleajaaGreatDoor
section
section
open Go.RowKit Go.Shelf
set_option linter.unusedVariables false
set_option linter.unusedSimpArgs false
attribute [local go_sem] Oper.semAt_some

theorem asm_er (s : List UInt8) : (I.asmP s).2.2 = 0 ∨ (I.asmP s).2.2 = 31 := by
  unfold I.asmP
  split
  · split <;> simp
  · simp
theorem mayB_of {c f p q : Int} {len : Nat} (h : InB c f p q) (h1 : 1 ≤ len) (h2 : len ≤ 512) : mayB c f p q len = true := by
  obtain ⟨hc, hf, hp, hq⟩ := h
  rw [mayB_iff]
  omega
theorem inB_of {c f p q : Int} {len : Nat} (h : mayB c f p q len = true) : InB c f p q ∧ 1 ≤ len ∧ len ≤ 512 := by
  have h1 := (mayB_iff c f p q len).1 h
  exact ⟨⟨by omega, by omega, by omega, by omega⟩, by omega, by omega⟩
/-- What a text says, at most: nothing, and where it goes wrong; or a boot that may be. -/
theorem parse_cases (s : List UInt8) : (∃ line, parseB s = ((0, 0, 0, 0, []), line, 190)) ∨ ∃ c f p q ws, parseB s = ((c, f, p, q, ws), 0, 0) ∧ InB c f p q ∧ WordsOk ws ∧ 1 ≤ ws.length := by
  cases hb : badB s with
  | some k => exact .inl ⟨_, parse_bad hb⟩
  | none =>
    rw [parse_good hb]
    by_cases he : (I.asmP (behL 4 s)).2.2 = 0
    · rw [if_pos he]
      by_cases hw : (I.asmP (behL 4 s)).1 = []
      · rw [if_pos hw]; exact .inl ⟨_, rfl⟩
      · rw [if_neg hw]
        exact .inr ⟨_, _, _, _, _, rfl, bad_in hb, asm_ok _, List.length_pos_iff.2 hw⟩
    · rw [if_neg he]; exact .inl ⟨_, rfl⟩
theorem text_len {c f p q : Int} {ws : List Int} (h : InB c f p q) (hr : ∀ w ∈ ws, I.RangeW w) (hl : ws.length ≤ 600) : (textB c f p q ws).length ≤ 900000 := by
  have h1 := I.list_len ws hr
  have h2 : (headT c f p q).length ≤ 160 := by
    have hrg : Rg4 c f p q := fun k hk => by
      obtain ⟨hc, hf, hp, hq⟩ := h
      rcases lt4 hk with rfl | rfl | rfl | rfl <;> (simp only [vB, List.getD_cons_zero, List.getD_cons_succ]; omega)
    rw [← pre_all]
    exact pre_len hrg 4 (Nat.le_refl _)
  unfold textB
  rw [List.length_append]
  omega

end
section
open Go.RowKit Go.Shelf
set_option linter.unusedVariables false
set_option linter.unusedSimpArgs false
attribute [local go_sem] Oper.semAt_some

theorem eq4 (a b c d : Int) (w : World) : (Op.equalIn 10000 49 (.agg #[.int .i64 a, .int .i64 b, .int .i64 c, .int .i64 d]) (.agg #[.int .i64 a, .int .i64 b, .int .i64 c, .int .i64 d])).run Tryz.prog w = .ok (.true) w := by
  have a2 := Tryz.sizeOf3
  have a4 := Tryz.isAgg3
  rw [show (10000 : Nat) = 9999 + 1 from rfl, Op.equalIn]
  simp only [Sem.run_bind, run_underlying Tryz.underlying49, Result.andThen_ok]
  simp only [Std.Legacy.Range.forIn_eq_forIn_range', Std.Legacy.Range.size, Nat.sub_zero, Nat.add_sub_cancel, Nat.div_one, List.range'_succ, List.range'_zero, List.forIn_cons, List.forIn_nil]
  simp only [Sem.run_bind, a2, Result.andThen_ok, Nat.reduceMul, Nat.reduceAdd, Nat.zero_mul]
  go_simp
set_option maxHeartbeats 1000000 in
theorem sliceEq_any {w : World} (A B : Option Addr) (ca cb : Nat) (xs : List Int) (hx : I.WordsAt w A xs) (hy : I.WordsAt w B xs) (hxl : xs.length ≤ 1000000) :
    Calls Tryz.prog 33 #[.slice A xs.length ca, .slice B xs.length cb] w fun e w' => e = .returned (.bool true) ∧ Below w.heap.size w w' := by
  go_enter Tryz.func33, Tryz.ntmps33
  go_wp2
  go_loopw [13] (fun i wr => ∃ k : Nat, i = .int .i64 (k : Int) ∧ k ≤ xs.length ∧ Below w.heap.size w wr) (fun i _ => xs.length - (intOf i).toNat)
  case atStart => exact ⟨0, rfl, Nat.zero_le _, Below.refl _ _⟩
  case round =>
    obtain ⟨k, rfl, hk, hB⟩ := hrel
    by_cases hki : k < xs.length
    · have hkb : (k : Int) < (xs.length : Int) := by omega
      have hkb0 : (0 : Int) ≤ (k : Int) := by omega
      have hxe : xs[k]? = some xs[k] := List.getElem?_eq_getElem hki
      obtain ⟨b, off, rfl, hbl, c0⟩ := I.wordsAt_cell (hx.below hB) hxe
      obtain ⟨b', off', rfl, hbl', d0⟩ := I.wordsAt_cell (hy.below hB) hxe
      generalize xs[k] = x at *
      clear hxe hx hy
      go_wp2_with (go_quiet (fail))
      go_roundw
      case rel => exact ⟨k + 1, by go_num, by omega, by first | exact hB | exact belowN hB _ | exact hB.drew⟩
      case measure => simp [intOf]; omega
    · have hkb : ¬ (k : Int) < (xs.length : Int) := by omega
      clear hx hy
      go_wp2
      go_ret
      exact ⟨rfl, hB⟩

set_option maxRecDepth 100000 in
set_option maxHeartbeats 4000000 in
theorem sameN_any {w : World} (c f p q : Int) (A B : Option Addr) (ca cb : Nat) (ws : List Int) (hA : I.WordsAt w A ws) (hB : I.WordsAt w B ws) (hl : ws.length ≤ 1000000) :
    Calls Tryz.prog 12 #[.agg #[.int .i64 c, .int .i64 f, .int .i64 p, .int .i64 q, .slice A ws.length ca], .agg #[.int .i64 c, .int .i64 f, .int .i64 p, .int .i64 q, .slice B ws.length cb]] w fun e w' => e = .returned (.bool true) ∧ Below w.heap.size w w' := by
  obtain ⟨W0, hW0⟩ : ∃ W0, (w.alloc (.cells #[.int .i64 c, .int .i64 f, .int .i64 p, .int .i64 q, .slice A ws.length ca] 24)).alloc (.cells #[.int .i64 c, .int .i64 f, .int .i64 p, .int .i64 q, .slice B ws.length cb] 24) = W0 := ⟨_, rfl⟩
  have hb0 : Below w.heap.size w W0 := by rw [← hW0]; exact ((Below.refl w.heap.size w).alloc (Nat.le_refl _) _).alloc (by simp) _
  have hx := (Blk.new w 24 #[.int .i64 c, .int .i64 f, .int .i64 p, .int .i64 q, .slice A ws.length ca]).alloc (.cells #[.int .i64 c, .int .i64 f, .int .i64 p, .int .i64 q, .slice B ws.length cb] 24)
  have hy := Blk.new (w.alloc (.cells #[.int .i64 c, .int .i64 f, .int .i64 p, .int .i64 q, .slice A ws.length ca] 24)) 24 #[.int .i64 c, .int .i64 f, .int .i64 p, .int .i64 q, .slice B ws.length cb]
  rw [World.size_alloc] at hy
  rw [hW0] at hx hy
  have HC := Lib.hid (fun W (hW : Below W0.heap.size W0 W) => rcells' (hx.below hW hx.lt))
  have HD := Lib.hid (fun W (hW : Below W0.heap.size W0 W) => rcells' (hy.below hW hy.lt))
  have HSZ := Lib.hid (fun W A ca (hW : Below W0.heap.size W0 W) => show Calls Tryz.prog 20 #[.agg #[.int .i64 c, .int .i64 f, .int .i64 p, .int .i64 q, .slice A ws.length ca]] W fun e w' => e = .returned (.agg #[.int .i64 c, .int .i64 f, .int .i64 p, .int .i64 q]) ∧ Below W0.heap.size W0 w' from
    (sizes_any (w := W) c f p q A ws.length ca).mono fun e w' ⟨he, hb⟩ => ⟨he, bl_step hW hb⟩)
  have HEQ := Lib.hid (fun W (hW : Below W0.heap.size W0 W) => show Calls Tryz.prog 33 #[.slice A ws.length ca, .slice B ws.length cb] W fun e w' => e = .returned (.bool true) ∧ Below W0.heap.size W0 w' from
    (sliceEq_any A B ca cb ws (hA.below (hb0.trans (hW.mono hb0.size))) (hB.below (hb0.trans (hW.mono hb0.size))) hl).mono fun e w' ⟨he, hb⟩ => ⟨he, bl_step hW hb⟩)
  have HE := fun w => eq4 c f p q w
  have HB0 := Lib.hid hb0
  have hBc := Below.refl W0.heap.size W0
  obtain ⟨x0, x1, x2, x3, x4, xlt⟩ := rcells' hx
  obtain ⟨y0, y1, y2, y3, y4, ylt⟩ := rcells' hy
  clear hA hB hl hx hy hb0
  go_enter Tryz.func12, Tryz.ntmps12
  go_wp2_with fail
  go_region_held3 (fun W => (W.cell? ⟨w.heap.size, 0, none⟩ = some (.int .i64 c) ∧ W.cell? ⟨w.heap.size, 1, none⟩ = some (.int .i64 f) ∧ W.cell? ⟨w.heap.size, 2, none⟩ = some (.int .i64 p) ∧ W.cell? ⟨w.heap.size, 3, none⟩ = some (.int .i64 q) ∧ W.cell? ⟨w.heap.size, 4, none⟩ = some (.slice A ws.length ca)) ∧ W.cell? ⟨w.heap.size + 1, 0, none⟩ = some (.int .i64 c) ∧ W.cell? ⟨w.heap.size + 1, 1, none⟩ = some (.int .i64 f) ∧ W.cell? ⟨w.heap.size + 1, 2, none⟩ = some (.int .i64 p) ∧ W.cell? ⟨w.heap.size + 1, 3, none⟩ = some (.int .i64 q) ∧ W.cell? ⟨w.heap.size + 1, 4, none⟩ = some (.slice B ws.length cb))
    (first | exact (have h : Below W0.heap.size W0 _ := (by repeat (first | assumption | refine Below.drew ?_)); have k := HC.out _ h; have m := HD.out _ h; ⟨⟨k.1, k.2.1, k.2.2.1, k.2.2.2.1, k.2.2.2.2.1⟩, m.1, m.2.1, m.2.2.1, m.2.2.2.1, m.2.2.2.2.1⟩))
    (first
      | (go_at_call 20; refine (HSZ.out _ _ _ ?_).mono ?_; (focus (repeat (first | assumption | refine Below.drew ?_))); rintro e V1 ⟨rfl, hV1⟩)
      | (go_at_call 33; refine (HEQ.out _ ?_).mono ?_; (focus (repeat (first | assumption | refine Below.drew ?_))); rintro e V2 ⟨rfl, hV2⟩))
  all_goals
    rename World => wn
    have hbn : Below W0.heap.size W0 wn := by assumption
    have HBN := Lib.hid (HB0.out.trans (hbn.mono HB0.out.size))
    go_wp2
    go_ret
    exact ⟨by first | rfl | (simp; done), HBN.out⟩
end
end
end Go.Proofs.YtpikgebfeleajaaGreatDoor
