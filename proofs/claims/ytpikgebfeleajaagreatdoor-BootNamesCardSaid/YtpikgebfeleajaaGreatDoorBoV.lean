/-
  boot.Same: two boots are the same. Condition: the tables lie as the program's text, and the library's, lay them.
-/
import Derived.Test.YtpikgebfeleajaaGreatDoorBoL
import Derived.BigQuiet
namespace Go.Proofs.YtpikgebfeleajaaGreatDoor
section
open Go.RowKit Go.Shelf
set_option linter.unusedVariables false
set_option linter.unusedSimpArgs false
attribute [local go_sem] Oper.semAt_some

theorem asm_er (s : List UInt8) : (I.asmP s).2.2 = 0 ∨ (I.asmP s).2.2 = 31 := by
  unfold I.asmP
  split
  · split <;> simp
  · simp
theorem mayB_of {c f p q : Int} {len : Nat} (h : InB c f p q) (h1 : 1 ≤ len) (h2 : len ≤ 512) : mayB c f p q len = true := by
  obtain ⟨hc, hf, hp, hq⟩ := h
  rw [mayB_iff]
  omega
theorem inB_of {c f p q : Int} {len : Nat} (h : mayB c f p q len = true) : InB c f p q ∧ 1 ≤ len ∧ len ≤ 512 := by
  have h1 := (mayB_iff c f p q len).1 h
  exact ⟨⟨by omega, by omega, by omega, by omega⟩, by omega, by omega⟩
/-- What a text says, at most: nothing, and where it goes wrong; or a boot that may be. -/
theorem parse_cases (s : List UInt8) : (∃ line, parseB s = ((0, 0, 0, 0, []), line, 190)) ∨ ∃ c f p q ws, parseB s = ((c, f, p, q, ws), 0, 0) ∧ InB c f p q ∧ WordsOk ws ∧ 1 ≤ ws.length := by
  cases hb : badB s with
  | some k => exact .inl ⟨_, parse_bad hb⟩
  | none =>
    rw [parse_good hb]
    by_cases he : (I.asmP (behL 4 s)).2.2 = 0
    · rw [if_pos he]
      by_cases hw : (I.asmP (behL 4 s)).1 = []
      · rw [if_pos hw]; exact .inl ⟨_, rfl⟩
      · rw [if_neg hw]
        exact .inr ⟨_, _, _, _, _, rfl, bad_in hb, asm_ok _, List.length_pos_iff.2 hw⟩
    · rw [if_neg he]; exact .inl ⟨_, rfl⟩
theorem text_len {c f p q : Int} {ws : List Int} (h : InB c f p q) (hr : ∀ w ∈ ws, I.RangeW w) (hl : ws.length ≤ 600) : (textB c f p q ws).length ≤ 900000 := by
  have h1 := I.list_len ws hr
  have h2 : (headT c f p q).length ≤ 160 := by
    have hrg : Rg4 c f p q := fun k hk => by
      obtain ⟨hc, hf, hp, hq⟩ := h
      rcases lt4 hk with rfl | rfl | rfl | rfl <;> (simp only [vB, List.getD_cons_zero, List.getD_cons_succ]; omega)
    rw [← pre_all]
    exact pre_len hrg 4 (Nat.le_refl _)
  unfold textB
  rw [List.length_append]
  omega

end
section
open Go.RowKit Go.Shelf
set_option linter.unusedVariables false
set_option linter.unusedSimpArgs false
attribute [local go_sem] Oper.semAt_some

theorem eq4 (a b c d : Int) (w : World) : (Op.equalIn 10000 49 (.agg #[.int .i64 a, .int .i64 b, .int .i64 c, .int .i64 d]) (.agg #[.int .i64 a, .int .i64 b, .int .i64 c, .int .i64 d])).run Tryz.prog w = .ok (.true) w := by
  have a2 := Tryz.sizeOf3
  have a4 := Tryz.isAgg3
  rw [show (10000 : Nat) = 9999 + 1 from rfl, Op.equalIn]
  simp only [Sem.run_bind, run_underlying Tryz.underlying49, Result.andThen_ok]
  simp only [Std.Legacy.Range.forIn_eq_forIn_range', Std.Legacy.Range.size, Nat.sub_zero, Nat.add_sub_cancel, Nat.div_one, List.range'_succ, List.range'_zero, List.forIn_cons, List.forIn_nil]
  simp only [Sem.run_bind, a2, Result.andThen_ok, Nat.reduceMul, Nat.reduceAdd, Nat.zero_mul]
  go_simp
set_option maxHeartbeats 1000000 in
theorem sliceEq_any {w : World} (A B : Option Addr) (ca cb : Nat) (xs : List Int) (hx : I.WordsAt w A xs) (hy : I.WordsAt w B xs) (hxl : xs.length ≤ 1000000) :
    Calls Tryz.prog 33 #[.slice A xs.length ca, .slice B xs.length cb] w fun e w' => e = .returned (.bool true) ∧ Below w.heap.size w w' := by
  go_enter Tryz.func33, Tryz.ntmps33
  go_wp2
  go_loopw [13] (fun i wr => ∃ k : Nat, i = .int .i64 (k : Int) ∧ k ≤ xs.length ∧ Below w.heap.size w wr) (fun i _ => xs.length - (intOf i).toNat)
  case atStart => exact ⟨0, rfl, Nat.zero_le _, Below.refl _ _⟩
  case round =>
    obtain ⟨k, rfl, hk, hB⟩ := hrel
    by_cases hki : k < xs.length
    · have hkb : (k : Int) < (xs.length : Int) := by omega
      have hkb0 : (0 : Int) ≤ (k : Int) := by omega
      have hxe : xs[k]? = some xs[k] := List.getElem?_eq_getElem hki
      obtain ⟨b, off, rfl, hbl, c0⟩ := I.wordsAt_cell (hx.below hB) hxe
      obtain ⟨b', off', rfl, hbl', d0⟩ := I.wordsAt_cell (hy.below hB) hxe
      generalize xs[k] = x at *
      clear hxe hx hy
      go_wp2_with (go_quiet (fail))
      go_roundw
      case rel => exact ⟨k + 1, by go_num, by omega, by first | exact hB | exact belowN hB _ | exact hB.drew⟩
      case measure => simp [intOf]; omega
    · have hkb : ¬ (k : Int) < (xs.length : Int) := by omega
      clear hx hy
      go_wp2
      go_ret
      exact ⟨rfl, hB⟩

set_option maxRecDepth 100000 in
set_option maxHeartbeats 4000000 in
theorem sameN_any {w : World} (c f p q : Int) (A B : Option Addr) (ca cb : Nat) (ws : List Int) (hA : I.WordsAt w A ws) (hB : I.WordsAt w B ws) (hl : ws.length ≤ 1000000) :
    Calls Tryz.prog 12 #[.agg #[.int .i64 c, .int .i64 f, .int .i64 p, .int .i64 q, .slice A ws.length ca], .agg #[.int .i64 c, .int .i64 f, .int .i64 p, .int .i64 q, .slice B ws.length cb]] w fun e w' => e = .returned (.bool true) ∧ Below w.heap.size w w' := by
  obtain ⟨W0, hW0⟩ : ∃ W0, (w.alloc (.cells #[.int .i64 c, .int .i64 f, .int .i64 p, .int .i64 q, .slice A ws.length ca] 24)).alloc (.cells #[.int .i64 c, .int .i64 f, .int .i64 p, .int .i64 q, .slice B ws.length cb] 24) = W0 := ⟨_, rfl⟩
  have hb0 : Below w.heap.size w W0 := by rw [← hW0]; exact ((Below.refl w.heap.size w).alloc (Nat.le_refl _) _).alloc (by simp) _
  have hx := (Blk.new w 24 #[.int .i64 c, .int .i64 f, .int .i64 p, .int .i64 q, .slice A ws.length ca]).alloc (.cells #[.int .i64 c, .int .i64 f, .int .i64 p, .int .i64 q, .slice B ws.length cb] 24)
  have hy := Blk.new (w.alloc (.cells #[.int .i64 c, .int .i64 f, .int .i64 p, .int .i64 q, .slice A ws.length ca] 24)) 24 #[.int .i64 c, .int .i64 f, .int .i64 p, .int .i64 q, .slice B ws.length cb]
  rw [World.size_alloc] at hy
  rw [hW0] at hx hy
  have HC := Lib.hid (fun W (hW : Below W0.heap.size W0 W) => rcells' (hx.below hW hx.lt))
  have HD := Lib.hid (fun W (hW : Below W0.heap.size W0 W) => rcells' (hy.below hW hy.lt))
  have HSZ := Lib.hid (fun W A ca (hW : Below W0.heap.size W0 W) => show Calls Tryz.prog 20 #[.agg #[.int .i64 c, .int .i64 f, .int .i64 p, .int .i64 q, .slice A ws.length ca]] W fun e w' => e = .returned (.agg #[.int .i64 c, .int .i64 f, .int .i64 p, .int .i64 q]) ∧ Below W0.heap.size W0 w' from
    (sizes_any (w := W) c f p q A ws.length ca).mono fun e w' ⟨he, hb⟩ => ⟨he, bl_step hW hb⟩)
  have HEQ := Lib.hid (fun W (hW : Below W0.heap.size W0 W) => show Calls Tryz.prog 33 #[.slice A ws.length ca, .slice B ws.length cb] W fun e w' => e = .returned (.bool true) ∧ Below W0.heap.size W0 w' from
    (sliceEq_any A B ca cb ws (hA.below (hb0.trans (hW.mono hb0.size))) (hB.below (hb0.trans (hW.mono hb0.size))) hl).mono fun e w' ⟨he, hb⟩ => ⟨he, bl_step hW hb⟩)
  have HE := fun w => eq4 c f p q w
  have HB0 := Lib.hid hb0
  have hBc := Below.refl W0.heap.size W0
  obtain ⟨x0, x1, x2, x3, x4, xlt⟩ := rcells' hx
  obtain ⟨y0, y1, y2, y3, y4, ylt⟩ := rcells' hy
  clear hA hB hl hx hy hb0
  go_enter Tryz.func12, Tryz.ntmps12
  go_wp2_with fail
  go_region_held3 (fun W => (W.cell? ⟨w.heap.size, 0, none⟩ = some (.int .i64 c) ∧ W.cell? ⟨w.heap.size, 1, none⟩ = some (.int .i64 f) ∧ W.cell? ⟨w.heap.size, 2, none⟩ = some (.int .i64 p) ∧ W.cell? ⟨w.heap.size, 3, none⟩ = some (.int .i64 q) ∧ W.cell? ⟨w.heap.size, 4, none⟩ = some (.slice A ws.length ca)) ∧ W.cell? ⟨w.heap.size + 1, 0, none⟩ = some (.int .i64 c) ∧ W.cell? ⟨w.heap.size + 1, 1, none⟩ = some (.int .i64 f) ∧ W.cell? ⟨w.heap.size + 1, 2, none⟩ = some (.int .i64 p) ∧ W.cell? ⟨w.heap.size + 1, 3, none⟩ = some (.int .i64 q) ∧ W.cell? ⟨w.heap.size + 1, 4, none⟩ = some (.slice B ws.length cb))
    (first | exact (have h : Below W0.heap.size W0 _ := (by repeat (first | assumption | refine Below.drew ?_)); have k := HC.out _ h; have m := HD.out _ h; ⟨⟨k.1, k.2.1, k.2.2.1, k.2.2.2.1, k.2.2.2.2.1⟩, m.1, m.2.1, m.2.2.1, m.2.2.2.1, m.2.2.2.2.1⟩))
    (first
      | (go_at_call 20; refine (HSZ.out _ _ _ ?_).mono ?_; (focus (repeat (first | assumption | refine Below.drew ?_))); rintro e V1 ⟨rfl, hV1⟩)
      | (go_at_call 33; refine (HEQ.out _ ?_).mono ?_; (focus (repeat (first | assumption | refine Below.drew ?_))); rintro e V2 ⟨rfl, hV2⟩))
  all_goals
    rename World => wn
    have hbn : Below W0.heap.size W0 wn := by assumption
    have HBN := Lib.hid (HB0.out.trans (hbn.mono HB0.out.size))
    go_wp2
    go_ret
    exact ⟨by first | rfl | (simp; done), HBN.out⟩
end
end Go.Proofs.YtpikgebfeleajaaGreatDoor
