/-
  The law's walk over package boot beside its reference. No condition.
-/
import Derived.Laws.BytesArg
import Derived.Deep.RegionWith
import Derived.Deep.DrawnRows
import Derived.Test.YtpikgebfeleajaaBoot7
namespace Go.Proofs.Ytpikgebfeleajaa
open Go.RowKit
set_option linter.unusedVariables false
set_option linter.unusedSimpArgs false
attribute [local go_sem ↓] Go.wp_at_zero Go.wp_at_succ

theorem conv_bytes {w : World} {A : Option Addr} {l : List Int} (h : BytesAt w A l) (c : Nat) : (convert 25 9 (.slice A l.length c)).run Try.prog w = .ok (.string (strOfNums l)) w := by
  cases l with
  | nil =>
    show (convert 25 9 (.slice A 0 c)).run Try.prog w = .ok (.string ByteArray.empty) w
    rw [run_convert_bytes_string w _ _ 5 _ 0 c Try.underlying25 Try.underlying5 Try.underlying9]
    cases A with
    | none => simp [Conv.bytesToString]
    | some a => rw [run_bytesToString w a 0 c [] (by rfl)]; rfl
  | cons x l =>
    obtain ⟨b, off, rfl, _, _⟩ := byte_at h (show (x :: l)[0]? = some x from rfl)
    refine run_convert_bytes_arg w _ 5 Try.underlying25 Try.underlying5 b off _ c (x :: l) rfl (fun i hi => ?_) _ Try.underlying9
    obtain ⟨b', off', hA, _, hc⟩ := byte_at h (List.getElem?_eq_getElem hi)
    injection hA with hA
    injection hA with e1 e2 _
    subst e1 e2
    rw [hc, List.getD_eq_getElem?_getD, List.getElem?_eq_getElem hi]; rfl
theorem bl_step {w6 W W1 : World} (h : Below w6.heap.size w6 W) (h1 : Below W.heap.size W W1) : Below w6.heap.size w6 W1 := h.trans (h1.mono h.size)

set_option maxRecDepth 100000 in
set_option maxHeartbeats 8000000 in
theorem bootLaw_any {w : World} (c f p q page : Int) (A : Option Addr) (cap : Nat) (ws : List Int) (hlen : ws.length ≤ maxLen) (hw : Words ws) (hA : WordsAt w A ws) :
    Calls Try.prog 3 #[bootV c f p q A ws.length cap, .int .i64 page] w fun e w' => e = .returned (.bool true) ∧ Below w.heap.size w w' := by
  unfold maxLen at hlen
  by_cases hbig : 600 < ws.length
  · unfold bootV
    clear hA
    go_enter Try.func3, Try.ntmps3
    go_wp2
    go_ret
    exact ⟨rfl, (Below.refl _ w).alloc (Nat.le_refl _) _⟩
  · have hl : ws.length ≤ 600 := by omega
    have HBY := Lib.hid (fun W (hW : Below w.heap.size w W) => callsIn_wide.1 (bootBytes_in 16 (Nat.le_refl _) c f p q page A cap ws hl hw W (hA.below hW)))
    have HPG := Lib.hid (fun W (hW : Below w.heap.size w W) => callsIn_wide.1 (bootPages_in 16 (Nat.le_refl _) c f p q A cap ws hl hw W (hA.below hW)))
    have HRP := Lib.hid (fun W => refPages_any (w := W) c f p q A ws.length cap (by omega))
    have HRB := Lib.hid (fun W (hW : Below w.heap.size w W) => refPage_any (w := W) c f p q A cap ws hl (hA.below hW) hw page)
    unfold bootV at HBY HPG HRP HRB ⊢
    have HB0 := Lib.hid ((Below.refl w.heap.size w).alloc (Nat.le_refl _) (.cells #[.int .i64 c, .int .i64 f, .int .i64 p, .int .i64 q, .slice A ws.length cap] 24))
    have HX0 := Lib.hid (Blk.new w 24 #[.int .i64 c, .int .i64 f, .int .i64 p, .int .i64 q, .slice A ws.length cap])
    obtain ⟨x0, x1, x2, x3, x4, xlt⟩ := rcells HX0.out
    generalize pageOf (mayB c f p q ws.length) ws page = bs at *
    generalize pagesN (mayB c f p q ws.length) ws.length = np at *
    clear hA
    go_enter Try.func3, Try.ntmps3
    go_wp2_with fail
    refine (HBY.out _ HB0.out).mono ?_
    rintro e w6 ⟨v, rfl, hown, hb6⟩
    obtain ⟨Ab, cb, rfl, hAb, _⟩ := ownB_at hown
    have hX6 := HX0.out.below hb6 HX0.out.lt
    have hs0 : (w.alloc (.cells #[.int .i64 c, .int .i64 f, .int .i64 p, .int .i64 q, .slice A ws.length cap] 24)).heap.size = w.heap.size + 1 := World.size_alloc ..
    have hB6 := HB0.out.trans (hb6.mono (by omega))
    have HXK := Lib.hid (fun W (hW : Below w6.heap.size w6 W) => rcells (hX6.below hW hX6.lt))
    have HCV := Lib.hid (fun W (hW : Below w6.heap.size w6 W) => conv_bytes (hAb.below hW) cb)
    have HBW := Lib.hid (fun W (hW : Below w6.heap.size w6 W) => hB6.trans (hW.mono (hB6.size)))
    have HP' := Lib.hid (fun W (hW : Below w6.heap.size w6 W) => (HPG.out W (HBW.out W hW)).mono fun e w' h => show e = .returned (.int .i64 (np : Int)) ∧ Below w6.heap.size w6 w' from ⟨h.1, bl_step hW h.2⟩)
    have HRP' := Lib.hid (fun W (hW : Below w6.heap.size w6 W) => (HRP.out W).mono fun e w' h => show e = .returned (.int .i64 (np : Int)) ∧ Below w6.heap.size w6 w' from ⟨h.1, bl_step hW h.2⟩)
    have HRB' := Lib.hid (fun W (hW : Below w6.heap.size w6 W) => (HRB.out W (HBW.out W hW)).mono fun e w' h => show ∃ Aq cq, e = .returned (.slice Aq bs.length cq) ∧ ((convert 25 9 (.slice Aq bs.length cq)).run Try.prog w' = .ok (.string (strOfNums bs)) w' ∧ (convert 25 9 (.slice Aq bs.length cq)).run Try.prog w'.drew = .ok (.string (strOfNums bs)) w'.drew ∧ (convert 25 9 (.slice Aq bs.length cq)).run Try.prog w'.drew.drew = .ok (.string (strOfNums bs)) w'.drew.drew ∧ (convert 25 9 (.slice Aq bs.length cq)).run Try.prog w'.drew.drew.drew = .ok (.string (strOfNums bs)) w'.drew.drew.drew) ∧ Below w6.heap.size w6 w' from by
      obtain ⟨v, h1, h2, h3⟩ := h
      obtain ⟨Aq, cq, rfl, hq, _⟩ := ownB_at h2
      exact ⟨Aq, cq, h1, ⟨conv_bytes hq cq, conv_bytes hq.drew cq, conv_bytes hq.drew.drew cq, conv_bytes hq.drew.drew.drew cq⟩, bl_step hW h3⟩)
    have hBR := Below.refl w6.heap.size w6
    have hstr : ((strOfNums bs).toList == (strOfNums bs).toList) = true := beq_self_eq_true _
    clear HBY HPG HRP HRB HB0 x0 x1 x2 x3 x4 xlt HX0 hown hb6 hAb hX6 hB6
    go_wp2_with fail
    obtain ⟨x0, x1, x2, x3, x4, xlt⟩ := HXK.out _ hBR
    have hcv0 := HCV.out _ (hBR.drew)
    go_region_with (first
        | (go_at_call 5; refine (HP'.out _ ?_).mono ?_; (focus (repeat (first | assumption | refine Below.drew ?_ | refine belowN ?_ _))); rintro e W1 ⟨rfl, hW1⟩; obtain ⟨x0, x1, x2, x3, x4, xlt⟩ := HXK.out _ hW1; have hcv := HCV.out _ hW1)
        | (go_at_call 6; refine (HRP'.out _ ?_).mono ?_; (focus (repeat (first | assumption | refine Below.drew ?_ | refine belowN ?_ _))); rintro e W1 ⟨rfl, hW1⟩; obtain ⟨x0, x1, x2, x3, x4, xlt⟩ := HXK.out _ hW1; have hcv := HCV.out _ hW1)
        | (go_at_call 7; refine (HRB'.out _ ?_).mono ?_; (focus (repeat (first | assumption | refine Below.drew ?_ | refine belowN ?_ _))); rintro e W1 ⟨Aq, cq, rfl, ⟨hq1, hq2, hq3, hq4⟩, hW1⟩; obtain ⟨x0, x1, x2, x3, x4, xlt⟩ := HXK.out _ hW1; have hcv := HCV.out _ hW1))
    all_goals go_wp2
    all_goals go_ret
    all_goals exact ⟨by first | rfl | simp, HBW.out _ (by repeat (first | assumption | refine Below.drew ?_ | refine belowN ?_ _))⟩
end Go.Proofs.Ytpikgebfeleajaa
