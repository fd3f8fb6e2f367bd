/-
  The document's Read: the instruction of a line. No condition but the line's length.
-/
import Derived.Test.YtkodeoocebimkaaDoorIs6
import Derived.Test.YtkodeoocebimkaaDoorRi9
namespace Go.Proofs.YtkodeoocebimkaaDoor
open Go.RowKit
set_option linter.unusedVariables false
set_option linter.unusedSimpArgs false
attribute [local go_sem] Oper.semAt_some

set_option maxRecDepth 100000 in
set_option maxHeartbeats 4000000 in
theorem refRead_any (hM : MayC) {w : World} (s : ByteArray) (hs : s.size ≤ 1000000) : Calls Tryd.prog 19 #[.string s] w fun e w' => e = .returned (.tuple #[.agg (readX s.data.toList).cells.toArray, .int .i64 (readE s.data.toList)]) ∧ Below w.heap.size w w' := by
  have HT := Lib.hid (fun W => refTake_any hM (w := W) s hs)
  have hRX : readX s.data.toList = if (namedT (pieces s.data.toList)).is && (namedT (pieces s.data.toList)).lab.isEmpty then (namedT (pieces s.data.toList)).x else x0 := by
    unfold readX readI
    split <;> rfl
  have hRE : readE s.data.toList = if (namedT (pieces s.data.toList)).is && (namedT (pieces s.data.toList)).lab.isEmpty then 0 else 30 := by
    unfold readE readI
    split <;> rfl
  obtain ⟨ws, hws⟩ : ∃ ws, pieces s.data.toList = ws := ⟨_, rfl⟩
  rw [hws] at HT hRX hRE
  rw [hRX, hRE]
  unfold TakeR at HT
  obtain ⟨nt, hnt⟩ : ∃ nt, namedT ws = nt := ⟨_, rfl⟩
  rw [hnt] at HT ⊢
  obtain ⟨q, hq⟩ : ∃ q, nt.is = q := ⟨_, rfl⟩
  obtain ⟨lb, hlb⟩ : ∃ q, nt.lab = q := ⟨_, rfl⟩
  obtain ⟨xx, hxx⟩ : ∃ q, nt.x = q := ⟨_, rfl⟩
  rw [hq, hlb, hxx] at HT ⊢
  clear hq hlb hxx hnt
  obtain ⟨post, hpost⟩ : ∃ post : Ending → World → Prop, (fun e w' => e = .returned (.tuple #[.agg (if q && lb.isEmpty then xx else x0).cells.toArray, .int .i64 (if q && lb.isEmpty then 0 else 30)]) ∧ Below w.heap.size w w') = post := ⟨_, rfl⟩
  rw [hpost]
  have HPOST := Lib.hid hpost
  clear hpost
  have hr0 := Blk.new w 23 #[.int .i64 0, .int .i64 0, .int .i64 0, .int .i64 0]
  have hb0 := (Below.refl w.heap.size w).alloc (Nat.le_refl _) (.cells #[.int .i64 0, .int .i64 0, .int .i64 0, .int .i64 0] 23)
  have HR0 := Lib.hid hr0
  have HB0 := Lib.hid hb0
  clear hr0 hb0 hRX hRE hws hs
  go_enter Tryd.func19, Tryd.ntmps19
  go_wp2_with fail
  refine (HT.out _).mono ?_
  rintro e w1 ⟨x, lab, rfl, hx, hb⟩
  obtain ⟨vo, va, vb, vm⟩ := x
  dsimp only [Ins.cells]
  have hr1 := (HR0.out.below hb HR0.out.lt).alloc (.cells #[.int .i64 vo, .int .i64 va, .int .i64 vb, .int .i64 vm] 23)
  have hx1 := Blk.new w1 23 #[.int .i64 vo, .int .i64 va, .int .i64 vb, .int .i64 vm]
  have hb1 := bl_new (bl_step HB0.out hb) (.cells #[.int .i64 vo, .int .i64 va, .int .i64 vb, .int .i64 vm] 23)
  have HR1 := Lib.hid hr1
  have HB1 := Lib.hid hb1
  have HX := Lib.hid hx
  clear HR0 HB0 hb hb1 HT hx
  have g0 := hr1.frozen 0
  have g1 := hr1.frozen 1
  have g2 := hr1.frozen 2
  have g3 := hr1.frozen 3
  obtain ⟨c0, c1, c2, c3, clt⟩ := ccells hx1
  obtain ⟨d0, d1, d2, d3, dlt⟩ := ccells hr1
  obtain ⟨eb, heb⟩ : ∃ eb, lab.toList.isEmpty = eb := ⟨_, rfl⟩
  have HEB := Lib.hid heb
  clear hr1 hx1
  cases q with
  | false =>
    clear heb
    go_wp2
    rw [← HPOST.out]
    exact bodyPost_ret (results_row_tmp Tryd.results19 _ rfl (set4_blk HR1.out _ _ _ _) Tryd.underlying23 rfl (by kernel_rfl)) rfl ⟨rfl, set4_below HB1.out (Nat.le_refl _) _ _ _ _⟩
  | true =>
    obtain ⟨hxe, hle⟩ := HX.out rfl
    have HXE := Lib.hid hxe
    have hle2 : lb.isEmpty = eb := by rw [← HEB.out, hle, Lib.toList_data]
    have HLE := Lib.hid hle2
    clear hxe hle hle2
    cases eb
    all_goals
      go_wp2
      rw [← HPOST.out]
      exact bodyPost_ret (results_row_tmp Tryd.results19 _ rfl (set4_blk HR1.out _ _ _ _) Tryd.underlying23 rfl (by kernel_rfl)) rfl ⟨by rw [HLE.out, ← HXE.out]; rfl, set4_below HB1.out (Nat.le_refl _) _ _ _ _⟩
end Go.Proofs.YtkodeoocebimkaaDoor
