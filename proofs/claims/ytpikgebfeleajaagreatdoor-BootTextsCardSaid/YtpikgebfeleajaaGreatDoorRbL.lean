/-
  The law BootTexts, walked. Condition: the tables lie as the program's text, and the library's, lay them.
-/
import Derived.BigQuiet
import Derived.Deep.RegionHeld3
import Derived.Test.YtpikgebfeleajaaGreatDoorBoL
import Derived.Test.YtpikgebfeleajaaGreatDoorRbN
import Derived.Test.YtpikgebfeleajaaGreatDoorRiC
import Derived.Test.YtpikgebfeleajaaGreatDoorRi2
import Derived.Test.YtpikgebfeleajaaGreatDoorRbP
namespace Go.Proofs.YtpikgebfeleajaaGreatDoor
section
open Go.RowKit Go.Shelf
set_option linter.unusedVariables false
set_option linter.unusedSimpArgs false
attribute [local go_sem] Oper.semAt_some

theorem eq4_no (a b c d a' b' c' d' : Int) (h : ¬ (a = a' ∧ b = b' ∧ c = c' ∧ d = d')) (w : World) : (Op.equalIn 10000 49 (.agg #[.int .i64 a, .int .i64 b, .int .i64 c, .int .i64 d]) (.agg #[.int .i64 a', .int .i64 b', .int .i64 c', .int .i64 d'])).run Tryz.prog w = .ok (.false) w := by
  have a2 := Tryz.sizeOf3
  have a4 := Tryz.isAgg3
  rw [show (10000 : Nat) = 9999 + 1 from rfl, Op.equalIn]
  simp only [Sem.run_bind, run_underlying Tryz.underlying49, Result.andThen_ok]
  simp only [Std.Legacy.Range.forIn_eq_forIn_range', Std.Legacy.Range.size, Nat.sub_zero, Nat.add_sub_cancel, Nat.div_one, List.range'_succ, List.range'_zero, List.forIn_cons, List.forIn_nil]
  simp only [Sem.run_bind, a2, Result.andThen_ok, Nat.reduceMul, Nat.reduceAdd, Nat.zero_mul]
  by_cases h1 : a = a'
  · by_cases h2 : b = b'
    · by_cases h3 : c = c'
      · have h4 : ¬ d = d' := fun e => h ⟨h1, h2, h3, e⟩
        subst h1 h2 h3
        go_simp
        try simp [h4]
      · subst h1 h2
        go_simp
        try simp [h3]
    · subst h1
      go_simp
      try simp [h2]
  · go_simp
    try simp [h1]

set_option maxRecDepth 100000 in
set_option maxHeartbeats 4000000 in
theorem sameNo_any {w : World} (c f p q c' f' p' q' : Int) (A B : Option Addr) (n m ca cb : Nat) (hn : ¬ (c = c' ∧ f = f' ∧ p = p' ∧ q = q')) :
    Calls Tryz.prog 12 #[.agg #[.int .i64 c, .int .i64 f, .int .i64 p, .int .i64 q, .slice A n ca], .agg #[.int .i64 c', .int .i64 f', .int .i64 p', .int .i64 q', .slice B m cb]] w fun e w' => e = .returned (.bool false) ∧ Below w.heap.size w w' := by
  obtain ⟨W0, hW0⟩ : ∃ W0, (w.alloc (.cells #[.int .i64 c, .int .i64 f, .int .i64 p, .int .i64 q, .slice A n ca] 24)).alloc (.cells #[.int .i64 c', .int .i64 f', .int .i64 p', .int .i64 q', .slice B m cb] 24) = W0 := ⟨_, rfl⟩
  have hb0 : Below w.heap.size w W0 := by rw [← hW0]; exact ((Below.refl w.heap.size w).alloc (Nat.le_refl _) _).alloc (by simp) _
  have hx := (Blk.new w 24 #[.int .i64 c, .int .i64 f, .int .i64 p, .int .i64 q, .slice A n ca]).alloc (.cells #[.int .i64 c', .int .i64 f', .int .i64 p', .int .i64 q', .slice B m cb] 24)
  have hy := Blk.new (w.alloc (.cells #[.int .i64 c, .int .i64 f, .int .i64 p, .int .i64 q, .slice A n ca] 24)) 24 #[.int .i64 c', .int .i64 f', .int .i64 p', .int .i64 q', .slice B m cb]
  rw [World.size_alloc] at hy
  rw [hW0] at hx hy
  have HC := Lib.hid (fun W (hW : Below W0.heap.size W0 W) => rcells' (hx.below hW hx.lt))
  have HD := Lib.hid (fun W (hW : Below W0.heap.size W0 W) => rcells' (hy.below hW hy.lt))
  have HSZ := Lib.hid (fun W c f p q (A : Option Addr) (n ca : Nat) (hW : Below W0.heap.size W0 W) => show Calls Tryz.prog 20 #[.agg #[.int .i64 c, .int .i64 f, .int .i64 p, .int .i64 q, .slice A n ca]] W fun e w' => e = .returned (.agg #[.int .i64 c, .int .i64 f, .int .i64 p, .int .i64 q]) ∧ Below W0.heap.size W0 w' from
    (sizes_any (w := W) c f p q A n ca).mono fun e w' ⟨he, hb⟩ => ⟨he, bl_step hW hb⟩)
  have HE := fun w => eq4_no c f p q c' f' p' q' hn w
  have HB0 := Lib.hid hb0
  have hBc := Below.refl W0.heap.size W0
  obtain ⟨x0, x1, x2, x3, x4, xlt⟩ := rcells' hx
  obtain ⟨y0, y1, y2, y3, y4, ylt⟩ := rcells' hy
  clear hx hy hb0 hn
  go_enter Tryz.func12, Tryz.ntmps12
  go_wp2_with fail
  first
  | (go_region_with (go_at_call 20; refine (HSZ.out _ _ _ _ _ _ _ _ ?_).mono ?_; (focus (repeat (first | assumption | refine Below.drew ?_))); rintro e V1 ⟨rfl, hV1⟩; obtain ⟨x0, x1, x2, x3, x4, xlt⟩ := HC.out _ hV1; obtain ⟨y0, y1, y2, y3, y4, ylt⟩ := HD.out _ hV1))
  | (fail)
  all_goals
    rename World => wn
    have hbn : Below W0.heap.size W0 wn := by assumption
    have HBN := Lib.hid (HB0.out.trans (hbn.mono HB0.out.size))
    go_wp2
    go_ret
    exact ⟨by first | rfl | (simp; done), HBN.out⟩
end
end Go.Proofs.YtpikgebfeleajaaGreatDoor
namespace Go.Proofs.YtpikgebfeleajaaGreatDoor
section
open Go.RowKit Go.Shelf
set_option linter.unusedVariables false
set_option linter.unusedSimpArgs false
attribute [local go_sem] Oper.semAt_some

set_option maxHeartbeats 1000000 in
theorem sliceEqG_any {w : World} (A B : Option Addr) (ca cb : Nat) (xs ys : List Int) (hx : I.WordsAt w A xs) (hy : I.WordsAt w B ys) (hxl : xs.length ≤ 1000000) (hyl : ys.length ≤ 1000000) :
    Calls Tryz.prog 33 #[.slice A xs.length ca, .slice B ys.length cb] w fun e w' => e = .returned (.bool (decide (xs = ys))) ∧ Below w.heap.size w w' := by
  by_cases hlen : xs.length = ys.length
  · go_enter Tryz.func33, Tryz.ntmps33
    have hb : ((xs.length : Int) != (ys.length : Int)) = false := by simp [hlen]
    have HL := Lib.hid hlen
    clear hlen
    go_wp2
    go_loopw [13] (fun i wr => ∃ k : Nat, i = .int .i64 (k : Int) ∧ k ≤ xs.length ∧ (∀ j, j < k → xs[j]? = ys[j]?) ∧ Below w.heap.size w wr) (fun i _ => xs.length - (intOf i).toNat)
    case atStart => exact ⟨0, rfl, Nat.zero_le _, fun j hj => absurd hj (Nat.not_lt_zero j), Below.refl _ _⟩
    case round =>
      obtain ⟨k, rfl, hk, hpre, hB⟩ := hrel
      have HP := Lib.hid hpre
      clear hpre
      by_cases hki : k < xs.length
      · have hkb : (k : Int) < (xs.length : Int) := by omega
        have hlen := HL.out
        have hkb2 : (k : Int) < (ys.length : Int) := by omega
        have hxe : xs[k]? = some xs[k] := List.getElem?_eq_getElem hki
        have hye : ys[k]? = some (ys[k]'(by omega)) := List.getElem?_eq_getElem (by omega)
        obtain ⟨b, off, rfl, hbl, c0⟩ := I.wordsAt_cell (hx.below hB) hxe
        obtain ⟨b', off', rfl, hbl', d0⟩ := I.wordsAt_cell (hy.below hB) hye
        by_cases hxy : xs[k] = ys[k]'(by omega)
        · have hnx : ∀ j, j < k + 1 → xs[j]? = ys[j]? := fun j hj => by
            rcases Nat.lt_or_ge j k with h | h
            · exact HP.out j h
            · have : j = k := by omega
              subst this
              rw [hxe, hye, hxy]
          have HN := Lib.hid hnx
          generalize xs[k] = x at *
          generalize ys[k]'(by omega) = y at *
          have hb1 : (x != y) = false := by simp [hxy]
          clear hnx hxe hye hxy hlen hx hy
          go_wp2_with (go_quiet (fail))
          go_roundw
          case rel => exact ⟨k + 1, by go_num, by omega, HN.out, by first | exact hB | exact belowN hB _ | exact hB.drew⟩
          case measure => simp [intOf]; omega
        · have hne : decide (xs = ys) = false := decide_eq_false fun h => hxy (by subst h; rfl)
          have HNE := Lib.hid hne
          generalize xs[k] = x at *
          generalize ys[k]'(by omega) = y at *
          have hb1 : (x != y) = true := by simp [hxy]
          clear hxe hye hxy hlen hx hy hne
          go_wp2_with (go_quiet (fail))
          go_ret
          exact ⟨by rw [HNE.out]; rfl, by first | exact hB | exact belowN hB _ | exact hB.drew⟩
      · have hlen := HL.out
        have hxy : xs = ys := by
          apply List.ext_getElem?
          intro j
          rcases Nat.lt_or_ge j k with h | h
          · exact HP.out j h
          · rw [List.getElem?_eq_none (by omega), List.getElem?_eq_none (by omega)]
        have hd : decide (xs = ys) = true := decide_eq_true hxy
        have HD := Lib.hid hd
        clear hd hxy hlen
        go_wp2
        go_ret
        exact ⟨by rw [HD.out]; rfl, hB⟩
  · have hne : decide (xs = ys) = false := by simp; intro h; exact hlen (by rw [h])
    rw [hne]
    have hb : ((xs.length : Int) != (ys.length : Int)) = true := by simp; omega
    clear hlen hne hx hy
    go_enter Tryz.func33, Tryz.ntmps33
    go_wp2
    go_ret
    exact ⟨rfl, Below.refl _ _⟩
set_option maxRecDepth 100000 in
set_option maxHeartbeats 4000000 in
theorem sameL_any {w : World} (c f p q : Int) (A B : Option Addr) (ca cb : Nat) (ws vs : List Int) (hA : I.WordsAt w A ws) (hB : I.WordsAt w B vs) (hl : ws.length ≤ 1000000) (hl2 : vs.length ≤ 1000000) :
    Calls Tryz.prog 12 #[.agg #[.int .i64 c, .int .i64 f, .int .i64 p, .int .i64 q, .slice A ws.length ca], .agg #[.int .i64 c, .int .i64 f, .int .i64 p, .int .i64 q, .slice B vs.length cb]] w fun e w' => e = .returned (.bool (decide (ws = vs))) ∧ Below w.heap.size w w' := by
  obtain ⟨R, hR⟩ : ∃ R, decide (ws = vs) = R := ⟨_, rfl⟩
  rw [hR]
  obtain ⟨W0, hW0⟩ : ∃ W0, (w.alloc (.cells #[.int .i64 c, .int .i64 f, .int .i64 p, .int .i64 q, .slice A ws.length ca] 24)).alloc (.cells #[.int .i64 c, .int .i64 f, .int .i64 p, .int .i64 q, .slice B vs.length cb] 24) = W0 := ⟨_, rfl⟩
  have hb0 : Below w.heap.size w W0 := by rw [← hW0]; exact ((Below.refl w.heap.size w).alloc (Nat.le_refl _) _).alloc (by simp) _
  have hx := (Blk.new w 24 #[.int .i64 c, .int .i64 f, .int .i64 p, .int .i64 q, .slice A ws.length ca]).alloc (.cells #[.int .i64 c, .int .i64 f, .int .i64 p, .int .i64 q, .slice B vs.length cb] 24)
  have hy := Blk.new (w.alloc (.cells #[.int .i64 c, .int .i64 f, .int .i64 p, .int .i64 q, .slice A ws.length ca] 24)) 24 #[.int .i64 c, .int .i64 f, .int .i64 p, .int .i64 q, .slice B vs.length cb]
  rw [World.size_alloc] at hy
  rw [hW0] at hx hy
  have HC := Lib.hid (fun W (hW : Below W0.heap.size W0 W) => rcells' (hx.below hW hx.lt))
  have HD := Lib.hid (fun W (hW : Below W0.heap.size W0 W) => rcells' (hy.below hW hy.lt))
  have HSZ := Lib.hid (fun W A (n : Nat) ca (hW : Below W0.heap.size W0 W) => show Calls Tryz.prog 20 #[.agg #[.int .i64 c, .int .i64 f, .int .i64 p, .int .i64 q, .slice A n ca]] W fun e w' => e = .returned (.agg #[.int .i64 c, .int .i64 f, .int .i64 p, .int .i64 q]) ∧ Below W0.heap.size W0 w' from
    (sizes_any (w := W) c f p q A n ca).mono fun e w' ⟨he, hb⟩ => ⟨he, bl_step hW hb⟩)
  have HEQ := Lib.hid (fun W (hW : Below W0.heap.size W0 W) => show Calls Tryz.prog 33 #[.slice A ws.length ca, .slice B vs.length cb] W fun e w' => e = .returned (.bool R) ∧ Below W0.heap.size W0 w' from by
    rw [← hR]; exact (sliceEqG_any A B ca cb ws vs (hA.below (hb0.trans (hW.mono hb0.size))) (hB.below (hb0.trans (hW.mono hb0.size))) hl hl2).mono fun e w' ⟨he, hb⟩ => ⟨he, bl_step hW hb⟩)
  have HE := fun w => eq4 c f p q w
  have HB0 := Lib.hid hb0
  have hBc := Below.refl W0.heap.size W0
  obtain ⟨x0, x1, x2, x3, x4, xlt⟩ := rcells' hx
  obtain ⟨y0, y1, y2, y3, y4, ylt⟩ := rcells' hy
  clear hA hB hl hl2 hx hy hb0 hR
  go_enter Tryz.func12, Tryz.ntmps12
  go_wp2_with fail
  go_region_held3 (fun W => (W.cell? ⟨w.heap.size, 0, none⟩ = some (.int .i64 c) ∧ W.cell? ⟨w.heap.size, 1, none⟩ = some (.int .i64 f) ∧ W.cell? ⟨w.heap.size, 2, none⟩ = some (.int .i64 p) ∧ W.cell? ⟨w.heap.size, 3, none⟩ = some (.int .i64 q) ∧ W.cell? ⟨w.heap.size, 4, none⟩ = some (.slice A ws.length ca)) ∧ W.cell? ⟨w.heap.size + 1, 0, none⟩ = some (.int .i64 c) ∧ W.cell? ⟨w.heap.size + 1, 1, none⟩ = some (.int .i64 f) ∧ W.cell? ⟨w.heap.size + 1, 2, none⟩ = some (.int .i64 p) ∧ W.cell? ⟨w.heap.size + 1, 3, none⟩ = some (.int .i64 q) ∧ W.cell? ⟨w.heap.size + 1, 4, none⟩ = some (.slice B vs.length cb))
    (first | exact (have h : Below W0.heap.size W0 _ := (by repeat (first | assumption | refine Below.drew ?_)); have k := HC.out _ h; have m := HD.out _ h; ⟨⟨k.1, k.2.1, k.2.2.1, k.2.2.2.1, k.2.2.2.2.1⟩, m.1, m.2.1, m.2.2.1, m.2.2.2.1, m.2.2.2.2.1⟩))
    (first
      | (go_at_call 20; refine (HSZ.out _ _ _ _ ?_).mono ?_; (focus (repeat (first | assumption | refine Below.drew ?_))); rintro e V1 ⟨rfl, hV1⟩)
      | (go_at_call 33; refine (HEQ.out _ ?_).mono ?_; (focus (repeat (first | assumption | refine Below.drew ?_))); rintro e V2 ⟨rfl, hV2⟩))
  all_goals
    rename World => wn
    have hbn : Below W0.heap.size W0 wn := by assumption
    have HBN := Lib.hid (HB0.out.trans (hbn.mono HB0.out.size))
    go_wp2
    go_ret
    exact ⟨by first | rfl | (simp; done), HBN.out⟩

/-- Two boots are the same. -/
def sameP (c f p q : Int) (ws : List Int) (c' f' p' q' : Int) (vs : List Int) : Bool := decide (ws = vs ∧ c = c' ∧ f = f' ∧ p = p' ∧ q = q')
theorem sameBoot_any {w : World} (c f p q c' f' p' q' : Int) (A B : Option Addr) (ca cb : Nat) (ws vs : List Int) (hA : I.WordsAt w A ws) (hB : I.WordsAt w B vs) (hl : ws.length ≤ 1000000) (hl2 : vs.length ≤ 1000000) :
    Calls Tryz.prog 12 #[bootV c f p q A ws.length ca, bootV c' f' p' q' B vs.length cb] w fun e w' => e = .returned (.bool (sameP c f p q ws c' f' p' q' vs)) ∧ Below w.heap.size w w' := by
  by_cases h : c = c' ∧ f = f' ∧ p = p' ∧ q = q'
  · obtain ⟨rfl, rfl, rfl, rfl⟩ := h
    have e : sameP c f p q ws c f p q vs = decide (ws = vs) := by unfold sameP; simp
    rw [e]
    exact sameL_any c f p q A B ca cb ws vs hA hB hl hl2
  · have e : sameP c f p q ws c' f' p' q' vs = false := decide_eq_false fun k => h k.2
    rw [e]
    exact sameNo_any c f p q c' f' p' q' A B _ _ ca cb h
set_option maxRecDepth 100000 in
set_option maxHeartbeats 4000000 in
theorem refSameBoot_any {w : World} (c f p q c' f' p' q' : Int) (A B : Option Addr) (ca cb : Nat) (ws vs : List Int) (hA : I.WordsAt w A ws) (hB : I.WordsAt w B vs) (hl : ws.length ≤ 1000000) (hl2 : vs.length ≤ 1000000) :
    Calls Tryz.prog 11 #[bootV c f p q A ws.length ca, bootV c' f' p' q' B vs.length cb] w fun e w' => e = .returned (.bool (sameP c f p q ws c' f' p' q' vs)) ∧ Below w.heap.size w w' := by
  have hb0 : Below w.heap.size w ((w.alloc (.cells #[.int .i64 c, .int .i64 f, .int .i64 p, .int .i64 q, .slice A ws.length ca] 24)).alloc (.cells #[.int .i64 c', .int .i64 f', .int .i64 p', .int .i64 q', .slice B vs.length cb] 24)) := ((Below.refl w.heap.size w).alloc (Nat.le_refl _) _).alloc (by simp) _
  have hx := (Blk.new w 24 #[.int .i64 c, .int .i64 f, .int .i64 p, .int .i64 q, .slice A ws.length ca]).alloc (.cells #[.int .i64 c', .int .i64 f', .int .i64 p', .int .i64 q', .slice B vs.length cb] 24)
  have hy := Blk.new (w.alloc (.cells #[.int .i64 c, .int .i64 f, .int .i64 p, .int .i64 q, .slice A ws.length ca] 24)) 24 #[.int .i64 c', .int .i64 f', .int .i64 p', .int .i64 q', .slice B vs.length cb]
  rw [World.size_alloc] at hy
  have hcase : (ws ≠ vs ∧ sameP c f p q ws c' f' p' q' vs = false) ∨ (ws = vs ∧ ((c ≠ c' ∧ sameP c f p q ws c' f' p' q' vs = false) ∨ (c = c' ∧ f ≠ f' ∧ sameP c f p q ws c' f' p' q' vs = false) ∨ (c = c' ∧ f = f' ∧ p ≠ p' ∧ sameP c f p q ws c' f' p' q' vs = false) ∨ (c = c' ∧ f = f' ∧ p = p' ∧ q ≠ q' ∧ sameP c f p q ws c' f' p' q' vs = false) ∨ (c = c' ∧ f = f' ∧ p = p' ∧ q = q' ∧ sameP c f p q ws c' f' p' q' vs = true))) := by
    unfold sameP
    by_cases h0 : ws = vs
    · by_cases h1 : c = c'
      · by_cases h2 : f = f'
        · by_cases h3 : p = p'
          · by_cases h4 : q = q' <;> simp [h0, h1, h2, h3, h4]
          · simp [h0, h1, h2, h3]
        · simp [h0, h1, h2]
      · simp [h0, h1]
    · simp [h0]
  have HS := Lib.hid (fun W (hW : Below w.heap.size w W) => show Calls Tryz.prog 32 #[.slice A ws.length ca, .slice B vs.length cb] W fun e w' => e = .returned (.bool (decide (ws = vs))) ∧ Below W.heap.size W w' from
    sameW_any A B ca cb ws vs (hA.below hW) (hB.below hW) hl hl2)
  obtain ⟨R, hR⟩ : ∃ R, sameP c f p q ws c' f' p' q' vs = R := ⟨_, rfl⟩
  obtain ⟨D, hD⟩ : ∃ D, decide (ws = vs) = D := ⟨_, rfl⟩
  rw [hR] at hcase ⊢
  rw [hD] at HS
  have hc2 : (D = false ∧ R = false) ∨ (D = true ∧ ((c ≠ c' ∧ R = false) ∨ (c = c' ∧ f ≠ f' ∧ R = false) ∨ (c = c' ∧ f = f' ∧ p ≠ p' ∧ R = false) ∨ (c = c' ∧ f = f' ∧ p = p' ∧ q ≠ q' ∧ R = false) ∨ (c = c' ∧ f = f' ∧ p = p' ∧ q = q' ∧ R = true))) := by
    rw [← hD]
    rcases hcase with ⟨h, k⟩ | ⟨h, k⟩
    · exact .inl ⟨decide_eq_false h, k⟩
    · exact .inr ⟨decide_eq_true h, k⟩
  unfold bootV
  have HX := Lib.hid hx
  have HY := Lib.hid hy
  have HB0 := Lib.hid hb0
  clear hA hB hl hl2 hx hy hb0 hR hD hcase
  obtain ⟨x0, x1, x2, x3, x4, xlt⟩ := rcells' HX.out
  obtain ⟨y0, y1, y2, y3, y4, ylt⟩ := rcells' HY.out
  have HC := Lib.hid hc2
  clear hc2
  go_enter Tryz.func11, Tryz.ntmps11
  go_wp2_with fail
  refine (HS.out _ HB0.out).mono ?_
  rintro e W1 ⟨rfl, hb1⟩
  clear x0 x1 x2 x3 x4 xlt y0 y1 y2 y3 y4 ylt
  obtain ⟨x0, x1, x2, x3, x4, xlt⟩ := rcells' (HX.out.below hb1 HX.out.lt)
  obtain ⟨y0, y1, y2, y3, y4, ylt⟩ := rcells' (HY.out.below hb1 HY.out.lt)
  have HB1 := Lib.hid (bl_step HB0.out hb1)
  clear hb1
  rcases HC.out with ⟨rfl, rfl⟩ | ⟨rfl, ⟨h1, rfl⟩ | ⟨rfl, h2, rfl⟩ | ⟨rfl, rfl, h3, rfl⟩ | ⟨rfl, rfl, rfl, h4, rfl⟩ | ⟨rfl, rfl, rfl, rfl, rfl⟩⟩
  all_goals
    clear HC
    go_wp2
    go_ret
    exact ⟨by first | rfl | (simp; done) | (simp; assumption), HB1.out⟩
end
end Go.Proofs.YtpikgebfeleajaaGreatDoor
namespace Go.Proofs.YtpikgebfeleajaaGreatDoor
section
open Go.RowKit
set_option linter.unusedVariables false
set_option linter.unusedSimpArgs false
attribute [local go_sem] Oper.semAt_some

theorem text_parts {c f p q : Int} (hc : 0 ≤ c) (hf : 0 ≤ f) (hp : 0 ≤ p) (hq : 0 ≤ q) (d0 d1 d2 d3 lt : ByteArray) (ws : List Int) (h0 : d0.data.toList = Lib.decDigits c.toNat) (h1 : d1.data.toList = Lib.decDigits f.toNat) (h2 : d2.data.toList = Lib.decDigits p.toNat) (h3 : d3.data.toList = Lib.decDigits q.toNat) (hl : lt.data.toList = I.listP ws) :
    (⟨#[99, 111, 114, 101, 115, 32]⟩ ++ d0 ++ ⟨#[10, 102, 114, 97, 109, 101, 115, 32]⟩ ++ d1 ++ ⟨#[10, 112, 114, 111, 99, 115, 32]⟩ ++ d2 ++ ⟨#[10, 112, 105, 112, 101, 32]⟩ ++ d3 ++ ⟨#[10]⟩ ++ lt : ByteArray) = ⟨(textB c f p q ws).toArray⟩ := by
  have e : ∀ n : Int, 0 ≤ n → Lib.itoa n = Lib.decDigits n.toNat := fun n hn => by
    obtain ⟨u, rfl⟩ := Int.eq_ofNat_of_zero_le hn
    rw [Lib.itoa_nonneg]
    rfl
  refine I.bytes_eq ?_
  simp only [ByteArray.data_append, Array.toList_append, h0, h1, h2, h3, hl]
  unfold textB headT lineB
  rw [e c hc, e f hf, e p hp, e q hq]
  show _ = (wB 0 ++ 32 :: _ ++ 10 :: (wB 1 ++ 32 :: _ ++ 10 :: (wB 2 ++ 32 :: _ ++ 10 :: (wB 3 ++ 32 :: _ ++ [10]))) ++ _ : List UInt8)
  simp [wB]

set_option maxRecDepth 100000 in
set_option maxHeartbeats 4000000 in
theorem refText_no {w : World} (c f p q : Int) (A : Option Addr) (len cap : Nat) (hl : len ≤ 1000000) (hm : mayB c f p q len = false) :
    Calls Tryz.prog 7 #[bootV c f p q A len cap] w fun e w' => e = .returned (.tuple #[.string ⟨#[]⟩, .int .i64 190]) ∧ Below w.heap.size w w' := by
  have HB0 := Lib.hid ((Below.refl w.heap.size w).alloc (Nat.le_refl _) (.cells #[.int .i64 c, .int .i64 f, .int .i64 p, .int .i64 q, .slice A len cap] 24))
  have hx := Blk.new w 24 #[.int .i64 c, .int .i64 f, .int .i64 p, .int .i64 q, .slice A len cap]
  have HC := Lib.hid (fun W => may_any (w := W) c f p q A len cap (by omega))
  rw [hm] at HC
  unfold bootV at HC ⊢
  obtain ⟨x0, x1, x2, x3, x4, xlt⟩ := rcells' hx
  clear hm hx
  go_enter Tryz.func7, Tryz.ntmps7
  go_wp2_with fail
  refine (HC.out _).mono ?_
  rintro e W1 ⟨rfl, hb1⟩
  have HB1 := Lib.hid (bl_step HB0.out hb1)
  clear hb1 x0 x1 x2 x3 x4 xlt
  go_wp2
  go_ret2
  exact ⟨rfl, HB1.out⟩

set_option maxRecDepth 100000 in
set_option maxHeartbeats 8000000 in
theorem refText_yes {w : World} (c f p q : Int) (A : Option Addr) (cap : Nat) (ws : List Int) (hA : I.WordsAt w A ws) (hr : ∀ x ∈ ws, I.RangeW x) (hm : mayB c f p q ws.length = true) :
    Calls Tryz.prog 7 #[bootV c f p q A ws.length cap] w fun e w' => e = .returned (.tuple #[.string ⟨(textB c f p q ws).toArray⟩, .int .i64 0]) ∧ Below w.heap.size w w' := by
  have hmi := (mayB_iff c f p q ws.length).1 hm
  obtain ⟨d0, e0⟩ : ∃ d : ByteArray, d = ⟨(Lib.decDigits c.toNat).toArray⟩ := ⟨_, rfl⟩
  obtain ⟨d1, e1⟩ : ∃ d : ByteArray, d = ⟨(Lib.decDigits f.toNat).toArray⟩ := ⟨_, rfl⟩
  obtain ⟨d2, e2⟩ : ∃ d : ByteArray, d = ⟨(Lib.decDigits p.toNat).toArray⟩ := ⟨_, rfl⟩
  obtain ⟨d3, e3⟩ : ∃ d : ByteArray, d = ⟨(Lib.decDigits q.toNat).toArray⟩ := ⟨_, rfl⟩
  obtain ⟨lt, hlt⟩ : ∃ lt : ByteArray, lt = ⟨(I.listP ws).toArray⟩ := ⟨_, rfl⟩
  have hlz : lt.size ≤ 1000000 := by
    have e : lt.size = (I.listP ws).length := by rw [hlt]; exact List.size_toArray
    have := I.list_len ws hr
    omega
  have hdz : ∀ (n : Int), 1 ≤ n → n ≤ 256 → (⟨(Lib.decDigits n.toNat).toArray⟩ : ByteArray).size ≤ 20 := fun n h0 h1 => by
    have := dec_len (u := n.toNat) (by omega)
    show (Lib.decDigits n.toNat).toArray.size ≤ 20
    simpa using this
  have z0 : d0.size ≤ 20 := by rw [e0]; exact hdz c (by omega) (by omega)
  have z1 : d1.size ≤ 20 := by rw [e1]; exact hdz f (by omega) (by omega)
  have z2 : d2.size ≤ 20 := by rw [e2]; exact hdz p (by omega) (by omega)
  have z3 : d3.size ≤ 20 := by rw [e3]; exact hdz q (by omega) (by omega)
  have HEN := Lib.hid (text_parts (c := c) (f := f) (p := p) (q := q) (by omega) (by omega) (by omega) (by omega) d0 d1 d2 d3 lt ws (by rw [e0]) (by rw [e1]) (by rw [e2]) (by rw [e3]) (by rw [hlt]))
  have hdg : ∀ (n : Int) (d : ByteArray), 1 ≤ n → n ≤ 256 → d = ⟨(Lib.decDigits n.toNat).toArray⟩ → ∀ W X, Below W.heap.size W X → Calls Tryz.prog 25 #[.int .i64 n] X fun e w' => e = .returned (.string d) ∧ Below W.heap.size W w' := fun n d h0 h1 hd W X hX => by
    obtain ⟨u, rfl⟩ := Int.eq_ofNat_of_zero_le (show 0 ≤ n by omega)
    rw [hd]
    exact (refDigits_any (w := X) u (by omega)).mono fun r w' h => ⟨h.1, bl_step hX h.2⟩
  have D0 := Lib.hid (hdg c d0 (by omega) (by omega) e0)
  have D1 := Lib.hid (hdg f d1 (by omega) (by omega) e1)
  have D2 := Lib.hid (hdg p d2 (by omega) (by omega) e2)
  have D3 := Lib.hid (hdg q d3 (by omega) (by omega) e3)
  have HL := Lib.hid (fun W (hW : Below w.heap.size w W) => show Calls Tryz.prog 24 #[.slice A ws.length cap] W fun e w' => e = .returned (.string lt) ∧ Below W.heap.size W w' from by
    rw [hlt]
    exact I.refList_any I.mayC A cap ws (by omega) (hA.below hW) hr)
  have HC := Lib.hid (fun W => may_any (w := W) c f p q A ws.length cap (by omega))
  rw [hm] at HC
  have HB0 := Lib.hid ((Below.refl w.heap.size w).alloc (Nat.le_refl _) (.cells #[.int .i64 c, .int .i64 f, .int .i64 p, .int .i64 q, .slice A ws.length cap] 24))
  have HX0 := Lib.hid (Blk.new w 24 #[.int .i64 c, .int .i64 f, .int .i64 p, .int .i64 q, .slice A ws.length cap])
  unfold bootV at HC ⊢
  obtain ⟨T, hT⟩ : ∃ T : ByteArray, (⟨(textB c f p q ws).toArray⟩ : ByteArray) = T := ⟨_, rfl⟩
  rw [hT] at HEN ⊢
  have hx0 := HX0.out
  obtain ⟨x0, x1, x2, x3, x4, xlt⟩ := rcells' hx0
  clear hA hr hm hmi hlt hT hdg e0 e1 e2 e3 hdz hx0
  go_enter Tryz.func7, Tryz.ntmps7
  go_wp2_with fail
  refine (HC.out _).mono ?_
  rintro e W1 ⟨rfl, hb1⟩
  have hx1 := HX0.out.below hb1 HX0.out.lt
  have HX1 := Lib.hid hx1
  have HB1 := Lib.hid (bl_step HB0.out hb1)
  clear hb1 HX0 HB0 HC x0 x1 x2 x3 x4 xlt
  obtain ⟨x0, x1, x2, x3, x4, xlt⟩ := rcells' hx1
  go_wp2_with fail
  refine (HL.out _ HB1.out).mono ?_
  rintro e W2 ⟨rfl, hb2⟩
  have HX2 := Lib.hid (HX1.out.below hb2 HX1.out.lt)
  have HB2 := Lib.hid (bl_step HB1.out hb2)
  clear hb2 HX1 HB1 HL x0 x1 x2 x3 x4 xlt hx1
  have q1 : ¬ 9223372036854775807 < 6 + d0.size := by omega
  have q2 : ¬ 9223372036854775807 < 6 + d0.size + 8 := by omega
  have q3 : ¬ 9223372036854775807 < 6 + d0.size + 8 + d1.size := by omega
  have q4 : ¬ 9223372036854775807 < 6 + d0.size + 8 + d1.size + 7 := by omega
  have q5 : ¬ 9223372036854775807 < 6 + d0.size + 8 + d1.size + 7 + d2.size := by omega
  have q6 : ¬ 9223372036854775807 < 6 + d0.size + 8 + d1.size + 7 + d2.size + 6 := by omega
  have q7 : ¬ 9223372036854775807 < 6 + d0.size + 8 + d1.size + 7 + d2.size + 6 + d3.size := by omega
  have q8 : ¬ 9223372036854775807 < 6 + d0.size + 8 + d1.size + 7 + d2.size + 6 + d3.size + 1 := by omega
  have q9 : ¬ 9223372036854775807 < 6 + d0.size + 8 + d1.size + 7 + d2.size + 6 + d3.size + 1 + lt.size := by omega
  have HK := Lib.hid (fun X (hX : Below W2.heap.size W2 X) => show X.cell? ⟨w.heap.size, 0, none⟩ = some (.int .i64 c) ∧ X.cell? ⟨w.heap.size, 1, none⟩ = some (.int .i64 f) ∧ X.cell? ⟨w.heap.size, 2, none⟩ = some (.int .i64 p) ∧ X.cell? ⟨w.heap.size, 3, none⟩ = some (.int .i64 q) from by
    obtain ⟨x0, x1, x2, x3, x4, xlt⟩ := rcells' (HX2.out.below hX HX2.out.lt)
    exact ⟨x0, x1, x2, x3⟩)
  have HRF := Lib.hid (Below.refl W2.heap.size W2)
  have HBX := Lib.hid (fun X (hX : Below W2.heap.size W2 X) => HB2.out.trans (hX.mono HB2.out.size))
  have C0 := Lib.hid (fun X => D0.out W2 X)
  have C1 := Lib.hid (fun X => D1.out W2 X)
  have C2 := Lib.hid (fun X => D2.out W2 X)
  have C3 := Lib.hid (fun X => D3.out W2 X)
  clear D0 D1 D2 D3 HX2 HB2 z0 z1 z2 z3 hlz
  generalize hbx : w.heap.size = bx at *
  have HBXX := Lib.hid hbx
  clear hbx
  go_upto_region 5 with (fail)
  go_region_held3 (fun X => X.cell? ⟨bx, 0, none⟩ = some (.int .i64 c) ∧ X.cell? ⟨bx, 1, none⟩ = some (.int .i64 f) ∧ X.cell? ⟨bx, 2, none⟩ = some (.int .i64 p) ∧ X.cell? ⟨bx, 3, none⟩ = some (.int .i64 q))
    (first | exact (have h : Below W2.heap.size W2 _ := (by repeat (first | assumption | exact HRF.out | refine Below.drew ?_)); HK.out _ h))
    (first
      | (go_at_call_of 25 (Value.int IntKind.i64 c); refine (C0.out _ ?_).mono ?_; (focus (repeat (first | assumption | exact HRF.out | refine Below.drew ?_))); rintro e W6 ⟨rfl, hW6⟩)
      | (go_at_call_of 25 (Value.int IntKind.i64 f); refine (C1.out _ ?_).mono ?_; (focus (repeat (first | assumption | exact HRF.out | refine Below.drew ?_))); rintro e W6 ⟨rfl, hW6⟩)
      | (go_at_call_of 25 (Value.int IntKind.i64 p); refine (C2.out _ ?_).mono ?_; (focus (repeat (first | assumption | exact HRF.out | refine Below.drew ?_))); rintro e W6 ⟨rfl, hW6⟩)
      | (go_at_call_of 25 (Value.int IntKind.i64 q); refine (C3.out _ ?_).mono ?_; (focus (repeat (first | assumption | exact HRF.out | refine Below.drew ?_))); rintro e W6 ⟨rfl, hW6⟩))
  all_goals
    rename World => wn
    have hbn : Below W2.heap.size W2 wn := by assumption
    have HBN := Lib.hid (HBX.out _ hbn)
    clear hbn
    go_wp2
    go_ret2
    exact ⟨by rw [← HEN.out]; rfl, by first | exact HBN.out | (rw [HBXX.out]; exact HBN.out) | (rw [← HBXX.out]; exact HBN.out)⟩
end
end Go.Proofs.YtpikgebfeleajaaGreatDoor
namespace Go.Proofs.YtpikgebfeleajaaGreatDoor
section
open Go.RowKit Go.Shelf
set_option linter.unusedVariables false
set_option linter.unusedSimpArgs false
attribute [local go_sem] Oper.semAt_some

theorem refText_any {w : World} (c f p q : Int) (A : Option Addr) (cap : Nat) (ws : List Int) (hA : I.WordsAt w A ws) (hr : ∀ x ∈ ws, I.RangeW x) (hl : ws.length ≤ 1000000) :
    Calls Tryz.prog 7 #[bootV c f p q A ws.length cap] w fun e w' => e = .returned (.tuple #[.string ⟨(if mayB c f p q ws.length then textB c f p q ws else []).toArray⟩, .int .i64 (if mayB c f p q ws.length then 0 else 190)]) ∧ Below w.heap.size w w' := by
  cases hm : mayB c f p q ws.length
  · exact refText_no c f p q A ws.length cap hl hm
  · exact refText_yes c f p q A cap ws hA hr hm

set_option maxRecDepth 100000 in
set_option maxHeartbeats 16000000 in
theorem textsWalk {w : World} (c f p q c' f' p' q' yc yf yp yq line er k : Int) (A B : Option Addr) (ca cb : Nat) (ws vs us : List Int) (s t : ByteArray) (R : Bool) (hl : ws.length ≤ 600) (hl2 : vs.length ≤ 600) (hs : s.size ≤ 8000)
    (H1 : Hid (∀ W, Below w.heap.size w W → Calls Tryz.prog 6 #[.agg #[.int .i64 c, .int .i64 f, .int .i64 p, .int .i64 q, .slice A ws.length ca]] W fun e w' => e = .returned (.tuple #[.string t, .int .i64 k]) ∧ Below W.heap.size W w'))
    (H2 : Hid (∀ W, Below w.heap.size w W → Calls Tryz.prog 7 #[.agg #[.int .i64 c, .int .i64 f, .int .i64 p, .int .i64 q, .slice A ws.length ca]] W fun e w' => e = .returned (.tuple #[.string t, .int .i64 k]) ∧ Below W.heap.size W w'))
    (H3 : Hid (∀ W, Below w.heap.size w W → Calls Tryz.prog 8 #[.string s] W fun e w' => ∃ A3 c3, e = .returned (.tuple #[.agg #[.int .i64 yc, .int .i64 yf, .int .i64 yp, .int .i64 yq, .slice A3 us.length c3], .int .i64 line, .int .i64 er]) ∧ I.WordsAt w' A3 us ∧ Below W.heap.size W w'))
    (H4 : Hid (∀ W, Below w.heap.size w W → Calls Tryz.prog 9 #[.string s] W fun e w' => ∃ A4 c4, e = .returned (.tuple #[.agg #[.int .i64 yc, .int .i64 yf, .int .i64 yp, .int .i64 yq, .slice A4 us.length c4], .int .i64 line, .int .i64 er]) ∧ I.WordsAt w' A4 us ∧ Below W.heap.size W w'))
    (H5 : Hid (∀ W, Below w.heap.size w W → Calls Tryz.prog 10 #[.agg #[.int .i64 c, .int .i64 f, .int .i64 p, .int .i64 q, .slice A ws.length ca]] W fun e w' => e = .returned (.int .i64 k) ∧ Below W.heap.size W w'))
    (H6 : Hid (∀ W A3 A4 c3 c4, I.WordsAt W A3 us → I.WordsAt W A4 us → Calls Tryz.prog 11 #[.agg #[.int .i64 yc, .int .i64 yf, .int .i64 yp, .int .i64 yq, .slice A3 us.length c3], .agg #[.int .i64 yc, .int .i64 yf, .int .i64 yp, .int .i64 yq, .slice A4 us.length c4]] W fun e w' => e = .returned (.bool true) ∧ Below W.heap.size W w'))
    (H7 : Hid (∀ W, Below w.heap.size w W → Calls Tryz.prog 12 #[.agg #[.int .i64 c, .int .i64 f, .int .i64 p, .int .i64 q, .slice A ws.length ca], .agg #[.int .i64 c', .int .i64 f', .int .i64 p', .int .i64 q', .slice B vs.length cb]] W fun e w' => e = .returned (.bool R) ∧ Below W.heap.size W w'))
    (H8 : Hid (∀ W, Below w.heap.size w W → Calls Tryz.prog 11 #[.agg #[.int .i64 c, .int .i64 f, .int .i64 p, .int .i64 q, .slice A ws.length ca], .agg #[.int .i64 c', .int .i64 f', .int .i64 p', .int .i64 q', .slice B vs.length cb]] W fun e w' => e = .returned (.bool R) ∧ Below W.heap.size W w')) :
    Calls Tryz.prog 3 #[.agg #[.int .i64 c, .int .i64 f, .int .i64 p, .int .i64 q, .slice A ws.length ca], .agg #[.int .i64 c', .int .i64 f', .int .i64 p', .int .i64 q', .slice B vs.length cb], .string s] w fun e w' => e = .returned (.bool true) ∧ Below w.heap.size w w' := by
  have g1 : ¬ (600 : Int) < (ws.length : Int) := by omega
  have g2 : ¬ (600 : Int) < (vs.length : Int) := by omega
  have g3 : ¬ (8000 : Int) < (s.size : Int) := by omega
  have hx := (Blk.new w 24 #[.int .i64 c, .int .i64 f, .int .i64 p, .int .i64 q, .slice A ws.length ca]).alloc (.cells #[.int .i64 c', .int .i64 f', .int .i64 p', .int .i64 q', .slice B vs.length cb] 24)
  have hz := Blk.new (w.alloc (.cells #[.int .i64 c, .int .i64 f, .int .i64 p, .int .i64 q, .slice A ws.length ca] 24)) 24 #[.int .i64 c', .int .i64 f', .int .i64 p', .int .i64 q', .slice B vs.length cb]
  rw [World.size_alloc] at hz
  have HX := Lib.hid hx
  have HZ := Lib.hid hz
  have HB := Lib.hid (bl_new ((Below.refl w.heap.size w).alloc (Nat.le_refl _) (.cells #[.int .i64 c, .int .i64 f, .int .i64 p, .int .i64 q, .slice A ws.length ca] 24)) (.cells #[.int .i64 c', .int .i64 f', .int .i64 p', .int .i64 q', .slice B vs.length cb] 24))
  obtain ⟨x0, x1, x2, x3, x4, xlt⟩ := rcells' hx
  obtain ⟨z0, z1, z2, z3, z4, zlt⟩ := rcells' hz
  clear hx hz
  go_enter Tryz.func3, Tryz.ntmps3
  go_wp2_with fail
  refine (H1.out _ HB.out).mono ?_
  rintro e W1 ⟨rfl, hb⟩
  have HX1 := Lib.hid (HX.out.below hb HX.out.lt)
  have HZ1 := Lib.hid (HZ.out.below hb HZ.out.lt)
  have HB1 := Lib.hid (bl_step HB.out hb)
  clear hb HX HZ HB x0 x1 x2 x3 x4 xlt z0 z1 z2 z3 z4 zlt H1
  obtain ⟨x0, x1, x2, x3, x4, xlt⟩ := rcells' HX1.out
  go_wp2_with fail
  refine (H2.out _ HB1.out).mono ?_
  rintro e W2 ⟨rfl, hb⟩
  have HX2 := Lib.hid (HX1.out.below hb HX1.out.lt)
  have HZ2 := Lib.hid (HZ1.out.below hb HZ1.out.lt)
  have HB2 := Lib.hid (bl_step HB1.out hb)
  clear hb HX1 HZ1 HB1 x0 x1 x2 x3 x4 xlt H2
  go_wp2_with fail
  refine (H3.out _ HB2.out).mono ?_
  rintro e W3 ⟨A3, c3, rfl, ha, hb⟩
  have hx3 := (HX2.out.below hb HX2.out.lt).alloc (.cells #[.int .i64 yc, .int .i64 yf, .int .i64 yp, .int .i64 yq, .slice A3 us.length c3] 24)
  have hz3 := (HZ2.out.below hb HZ2.out.lt).alloc (.cells #[.int .i64 yc, .int .i64 yf, .int .i64 yp, .int .i64 yq, .slice A3 us.length c3] 24)
  have hb3 := bl_new (bl_step HB2.out hb) (.cells #[.int .i64 yc, .int .i64 yf, .int .i64 yp, .int .i64 yq, .slice A3 us.length c3] 24)
  have hy3 := Blk.new W3 24 #[.int .i64 yc, .int .i64 yf, .int .i64 yp, .int .i64 yq, .slice A3 us.length c3]
  have ha3 := ha.below ((Below.refl W3.heap.size W3).alloc (Nat.le_refl _) (.cells #[.int .i64 yc, .int .i64 yf, .int .i64 yp, .int .i64 yq, .slice A3 us.length c3] 24))
  clear hb ha HX2 HZ2 HB2 H3
  go_wp2_with fail
  generalize hWW : World.alloc W3 (.cells #[.int .i64 yc, .int .i64 yf, .int .i64 yp, .int .i64 yq, .slice A3 us.length c3] 24) = V3 at *
  generalize hbb : W3.heap.size = b3 at *
  clear hWW hbb
  have HX3 := Lib.hid hx3
  have HZ3 := Lib.hid hz3
  have HB3 := Lib.hid hb3
  have HY3 := Lib.hid hy3
  have HA3 := Lib.hid ha3
  clear hx3 hz3 hb3 hy3 ha3
  refine (H4.out _ HB3.out).mono ?_
  rintro e W4 ⟨A4, c4, rfl, ha, hb⟩
  have hx4 := (HX3.out.below hb HX3.out.lt).alloc (.cells #[.int .i64 yc, .int .i64 yf, .int .i64 yp, .int .i64 yq, .slice A4 us.length c4] 24)
  have hz4 := (HZ3.out.below hb HZ3.out.lt).alloc (.cells #[.int .i64 yc, .int .i64 yf, .int .i64 yp, .int .i64 yq, .slice A4 us.length c4] 24)
  have hy4 := (HY3.out.below hb HY3.out.lt).alloc (.cells #[.int .i64 yc, .int .i64 yf, .int .i64 yp, .int .i64 yq, .slice A4 us.length c4] 24)
  have hA34 := (HA3.out.below hb).below ((Below.refl W4.heap.size W4).alloc (Nat.le_refl _) (.cells #[.int .i64 yc, .int .i64 yf, .int .i64 yp, .int .i64 yq, .slice A4 us.length c4] 24))
  have hb4 := bl_new (bl_step HB3.out hb) (.cells #[.int .i64 yc, .int .i64 yf, .int .i64 yp, .int .i64 yq, .slice A4 us.length c4] 24)
  have hv4 := Blk.new W4 24 #[.int .i64 yc, .int .i64 yf, .int .i64 yp, .int .i64 yq, .slice A4 us.length c4]
  have ha4 := ha.below ((Below.refl W4.heap.size W4).alloc (Nat.le_refl _) (.cells #[.int .i64 yc, .int .i64 yf, .int .i64 yp, .int .i64 yq, .slice A4 us.length c4] 24))
  clear hb ha HX3 HZ3 HB3 HY3 HA3 H4
  obtain ⟨x0, x1, x2, x3, x4, xlt⟩ := rcells' hx4
  go_wp2_with fail
  generalize hWW : World.alloc W4 (.cells #[.int .i64 yc, .int .i64 yf, .int .i64 yp, .int .i64 yq, .slice A4 us.length c4] 24) = V4 at *
  generalize hbb : W4.heap.size = b4 at *
  clear hWW hbb
  have HX4 := Lib.hid hx4
  have HZ4 := Lib.hid hz4
  have HB4 := Lib.hid hb4
  have HY4 := Lib.hid hy4
  have HV4 := Lib.hid hv4
  have HA4 := Lib.hid ha4
  have HA34 := Lib.hid hA34
  clear hx4 hz4 hb4 hy4 hv4 ha4 hA34
  refine (H5.out _ HB4.out).mono ?_
  rintro e W5 ⟨rfl, hb⟩
  clear x0 x1 x2 x3 x4 xlt
  have HK := Lib.hid (fun X (hX : Below W5.heap.size W5 X) => show X.cell? ⟨w.heap.size, 0, none⟩ = some (.int .i64 c) ∧ X.cell? ⟨w.heap.size, 1, none⟩ = some (.int .i64 f) ∧ X.cell? ⟨w.heap.size, 2, none⟩ = some (.int .i64 p) ∧ X.cell? ⟨w.heap.size, 3, none⟩ = some (.int .i64 q) ∧ X.cell? ⟨w.heap.size, 4, none⟩ = some (.slice A ws.length ca) ∧ X.cell? ⟨w.heap.size + 1, 0, none⟩ = some (.int .i64 c') ∧ X.cell? ⟨w.heap.size + 1, 1, none⟩ = some (.int .i64 f') ∧ X.cell? ⟨w.heap.size + 1, 2, none⟩ = some (.int .i64 p') ∧ X.cell? ⟨w.heap.size + 1, 3, none⟩ = some (.int .i64 q') ∧ X.cell? ⟨w.heap.size + 1, 4, none⟩ = some (.slice B vs.length cb) ∧ X.cell? ⟨b3, 0, none⟩ = some (.int .i64 yc) ∧ X.cell? ⟨b3, 1, none⟩ = some (.int .i64 yf) ∧ X.cell? ⟨b3, 2, none⟩ = some (.int .i64 yp) ∧ X.cell? ⟨b3, 3, none⟩ = some (.int .i64 yq) ∧ X.cell? ⟨b3, 4, none⟩ = some (.slice A3 us.length c3) ∧ X.cell? ⟨b4, 0, none⟩ = some (.int .i64 yc) ∧ X.cell? ⟨b4, 1, none⟩ = some (.int .i64 yf) ∧ X.cell? ⟨b4, 2, none⟩ = some (.int .i64 yp) ∧ X.cell? ⟨b4, 3, none⟩ = some (.int .i64 yq) ∧ X.cell? ⟨b4, 4, none⟩ = some (.slice A4 us.length c4) from by
    have hX4 := hb.trans (hX.mono hb.size)
    obtain ⟨x0, x1, x2, x3, x4, _⟩ := rcells' (HX4.out.below hX4 HX4.out.lt)
    obtain ⟨z0, z1, z2, z3, z4, _⟩ := rcells' (HZ4.out.below hX4 HZ4.out.lt)
    obtain ⟨y0, y1, y2, y3, y4, _⟩ := rcells' (HY4.out.below hX4 HY4.out.lt)
    obtain ⟨v0, v1, v2, v3, v4, _⟩ := rcells' (HV4.out.below hX4 HV4.out.lt)
    exact ⟨x0, x1, x2, x3, x4, z0, z1, z2, z3, z4, y0, y1, y2, y3, y4, v0, v1, v2, v3, v4⟩)
  have HBX := Lib.hid (fun X (hX : Below W5.heap.size W5 X) => (bl_step HB4.out hb).trans (hX.mono (bl_step HB4.out hb).size))
  have C6 := Lib.hid (fun X (hX : Below W5.heap.size W5 X) => (H6.out X A3 A4 c3 c4 (HA34.out.below (hb.trans (hX.mono hb.size))) (HA4.out.below (hb.trans (hX.mono hb.size)))).mono (R' := fun e w' => e = .returned (.bool true) ∧ Below W5.heap.size W5 w') fun r w' h => ⟨h.1, bl_step hX h.2⟩)
  have C7 := Lib.hid (fun X (hX : Below W5.heap.size W5 X) => (H7.out X (HBX.out _ hX)).mono (R' := fun e w' => e = .returned (.bool R) ∧ Below W5.heap.size W5 w') fun r w' h => ⟨h.1, bl_step hX h.2⟩)
  have C8 := Lib.hid (fun X (hX : Below W5.heap.size W5 X) => (H8.out X (HBX.out _ hX)).mono (R' := fun e w' => e = .returned (.bool R) ∧ Below W5.heap.size W5 w') fun r w' h => ⟨h.1, bl_step hX h.2⟩)
  have HRF := Lib.hid (Below.refl W5.heap.size W5)
  clear hb HX4 HZ4 HY4 HV4 HA4 HA34 HB4 H5 H6 H7 H8
  generalize hbx : w.heap.size = bx at *
  have HBXX := Lib.hid hbx
  clear hbx g1 g2 g3
  go_upto_region 8 with (fail)
  first
  | (go_region_held3 (fun X => X.cell? ⟨bx, 0, none⟩ = some (.int .i64 c) ∧ X.cell? ⟨bx, 1, none⟩ = some (.int .i64 f) ∧ X.cell? ⟨bx, 2, none⟩ = some (.int .i64 p) ∧ X.cell? ⟨bx, 3, none⟩ = some (.int .i64 q) ∧ X.cell? ⟨bx, 4, none⟩ = some (.slice A ws.length ca) ∧ X.cell? ⟨bx + 1, 0, none⟩ = some (.int .i64 c') ∧ X.cell? ⟨bx + 1, 1, none⟩ = some (.int .i64 f') ∧ X.cell? ⟨bx + 1, 2, none⟩ = some (.int .i64 p') ∧ X.cell? ⟨bx + 1, 3, none⟩ = some (.int .i64 q') ∧ X.cell? ⟨bx + 1, 4, none⟩ = some (.slice B vs.length cb) ∧ X.cell? ⟨b3, 0, none⟩ = some (.int .i64 yc) ∧ X.cell? ⟨b3, 1, none⟩ = some (.int .i64 yf) ∧ X.cell? ⟨b3, 2, none⟩ = some (.int .i64 yp) ∧ X.cell? ⟨b3, 3, none⟩ = some (.int .i64 yq) ∧ X.cell? ⟨b3, 4, none⟩ = some (.slice A3 us.length c3) ∧ X.cell? ⟨b4, 0, none⟩ = some (.int .i64 yc) ∧ X.cell? ⟨b4, 1, none⟩ = some (.int .i64 yf) ∧ X.cell? ⟨b4, 2, none⟩ = some (.int .i64 yp) ∧ X.cell? ⟨b4, 3, none⟩ = some (.int .i64 yq) ∧ X.cell? ⟨b4, 4, none⟩ = some (.slice A4 us.length c4))
    (first | exact (have h : Below W5.heap.size W5 _ := (by repeat (first | assumption | exact HRF.out | refine Below.drew ?_)); HK.out _ h))
    (first
      | (go_at_call 12; refine (C7.out _ ?_).mono ?_; (focus (repeat (first | assumption | exact HRF.out | refine Below.drew ?_))); rintro e W6 ⟨rfl, hW6⟩)
      | (go_at_call_of 11 (Value.slice A3 us.length c3); refine (C6.out _ ?_).mono ?_; (focus (repeat (first | assumption | exact HRF.out | refine Below.drew ?_))); rintro e W6 ⟨rfl, hW6⟩)
      | (go_at_call_of 11 (Value.slice A ws.length ca); refine (C8.out _ ?_).mono ?_; (focus (repeat (first | assumption | exact HRF.out | refine Below.drew ?_))); rintro e W6 ⟨rfl, hW6⟩)))
  | (fail)
  all_goals
    rename World => wn
    have hbn : Below W5.heap.size W5 wn := by assumption
    have HBN := Lib.hid (HBX.out _ hbn)
    clear hbn
    go_wp2
    go_ret
    exact ⟨by first | rfl | (simp; done), by first | exact HBN.out | (rw [HBXX.out]; exact HBN.out) | (rw [← HBXX.out]; exact HBN.out)⟩

set_option maxRecDepth 100000 in
set_option maxHeartbeats 4000000 in
theorem bootTexts_any {w : World} (hG : GB w) (c f p q : Int) (A : Option Addr) (ca : Nat) (ws : List Int) (hA : I.WordsAt w A ws) (hl : ws.length ≤ maxLen) (hr : ∀ x ∈ ws, I.RangeW x) (c' f' p' q' : Int) (B : Option Addr) (cb : Nat) (vs : List Int) (hB : I.WordsAt w B vs) (hl2 : vs.length ≤ maxLen) (s : ByteArray) (hs : s.size ≤ maxLen) :
    Calls Tryz.prog 3 #[.agg #[.int .i64 c, .int .i64 f, .int .i64 p, .int .i64 q, .slice A ws.length ca], .agg #[.int .i64 c', .int .i64 f', .int .i64 p', .int .i64 q', .slice B vs.length cb], .string s] w fun e w' => e = .returned (.bool true) ∧ Below w.heap.size w w' := by
  unfold maxLen at hl hl2 hs
  by_cases hbig : 600 < ws.length ∨ 600 < vs.length ∨ 8000 < s.size
  · have hcc : (600 : Int) < (ws.length : Int) ∨ (¬ (600 : Int) < (ws.length : Int) ∧ (600 : Int) < (vs.length : Int)) ∨ (¬ (600 : Int) < (ws.length : Int) ∧ ¬ (600 : Int) < (vs.length : Int) ∧ (8000 : Int) < (s.size : Int)) := by omega
    have hx := (Blk.new w 24 #[.int .i64 c, .int .i64 f, .int .i64 p, .int .i64 q, .slice A ws.length ca]).alloc (.cells #[.int .i64 c', .int .i64 f', .int .i64 p', .int .i64 q', .slice B vs.length cb] 24)
    have hz := Blk.new (w.alloc (.cells #[.int .i64 c, .int .i64 f, .int .i64 p, .int .i64 q, .slice A ws.length ca] 24)) 24 #[.int .i64 c', .int .i64 f', .int .i64 p', .int .i64 q', .slice B vs.length cb]
    rw [World.size_alloc] at hz
    have HB := Lib.hid (bl_new ((Below.refl w.heap.size w).alloc (Nat.le_refl _) (.cells #[.int .i64 c, .int .i64 f, .int .i64 p, .int .i64 q, .slice A ws.length ca] 24)) (.cells #[.int .i64 c', .int .i64 f', .int .i64 p', .int .i64 q', .slice B vs.length cb] 24))
    obtain ⟨x0, x1, x2, x3, x4, xlt⟩ := rcells' hx
    obtain ⟨z0, z1, z2, z3, z4, zlt⟩ := rcells' hz
    clear hx hz hA hB hr hG hbig
    rcases hcc with h1 | ⟨h1, h2⟩ | ⟨h1, h2, h3⟩
    all_goals
      go_enter Tryz.func3, Tryz.ntmps3
      go_wp2
      go_ret
      exact ⟨rfl, HB.out⟩
  · obtain ⟨⟨⟨yc, yf, yp, yq, us⟩, line, er⟩, hP⟩ : ∃ P, parseB s.data.toList = P := ⟨_, rfl⟩
    have hul : us.length ≤ 1000000 := by
      rcases parse_cases s.data.toList with ⟨l, h⟩ | ⟨a, b, d, e, u, h, _, h2, _⟩
      · rw [hP] at h
        simp only [Prod.mk.injEq] at h
        rw [h.1.2.2.2.2]
        exact Nat.zero_le _
      · rw [hP] at h
        simp only [Prod.mk.injEq] at h
        rw [h.1.2.2.2.2]
        have := h2.1
        omega
    refine textsWalk c f p q c' f' p' q' yc yf yp yq line er (if mayB c f p q ws.length then 0 else 190) A B ca cb ws vs us s ⟨(if mayB c f p q ws.length then textB c f p q ws else []).toArray⟩ (sameP c f p q ws c' f' p' q' vs) (by omega) (by omega) (by omega)
      (Lib.hid fun W hW => text_any (hG.below hW) c f p q A ca ws (hA.below hW) hr (by omega))
      (Lib.hid fun W hW => refText_any c f p q A ca ws (hA.below hW) hr (by omega))
      (Lib.hid fun W hW => parseOk_any (hG.below hW) s (by omega) hP)
      (Lib.hid fun W hW => ?_)
      (Lib.hid fun W hW => check_any (w := W) c f p q A ws.length ca (by omega))
      (Lib.hid fun W A3 A4 c3 c4 h3 h4 => sameB_any (w := W) yc yf yp yq A3 A4 c3 c4 us h3 h4 hul)
      (Lib.hid fun W hW => sameBoot_any c f p q c' f' p' q' A B ca cb ws vs (hA.below hW) (hB.below hW) (by omega) (by omega))
      (Lib.hid fun W hW => refSameBoot_any c f p q c' f' p' q' A B ca cb ws vs (hA.below hW) (hB.below hW) (by omega) (by omega))
    refine (refParse_any (w := W) s (by omega)).mono fun e w' hR => ?_
    rw [hP] at hR
    obtain ⟨A4, c4, h1, h2, _, h3⟩ := hR
    exact ⟨A4, c4, h1, h2, h3⟩
end
end Go.Proofs.YtpikgebfeleajaaGreatDoor
