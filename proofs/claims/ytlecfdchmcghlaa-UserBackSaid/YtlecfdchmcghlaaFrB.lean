/-
  Double of frames, of one that is used, where one is free. Condition: the frames lie in blocks of their own.
-/
import Derived.Deep.RegionHeld3
import Derived.StillTailTactics
import Derived.Test.YtlecfdchmcghlaaFrA
namespace Go.Proofs.Ytlecfdchmcghlaa
open Go.RowKit Go.Lib Go.Shelf
set_option linter.unusedVariables false
set_option linter.unusedSimpArgs false
attribute [local go_sem] Oper.semAt_some

theorem wpStill_load_mid {P : Program} {ops : Array Oper} {w : World} {Q : Act → Prop} {o : Oper} {rest : List Oper} {a : Act} (hw : Region.wanted o (yielded ops a.tmps) = true) (ty : TypeId) (x : Operand) (ho : o.op = .load ty x)
    (b off : Nat) (hx : a.eval x = .pointer (some ⟨b, off, none⟩)) (cs : List Value) (d : TypeDesc) (hc : w.rangeAt b off cs) (hu : P.underlying ty = some d) (hd : d.isRow = true) (hi : (P.info? ty).map (·.size) = some cs.length)
    (h : wpStill P ops w Q rest (a.put o.dst (.agg cs.toArray))) : wpStill P ops w Q (o :: rest) a := by
  unfold wpStill
  rw [if_pos hw]
  unfold Oper.still execOp
  simp only [ho, hx, Instr.loadAt, Instr.sureAddr, Sem.run_bind, Sem.run_pure, Result.andThen_ok, run_loadVar_mid w b off ty cs d hc hu hd hi, Oper.stillUpon_value]
  exact h
theorem brow_one (F : Fs) (k : Nat) : ∀ v ∈ (F.b k).map (fun x => Value.int .u8 x), v.oneCell' = true := fun v hv => by
  rw [List.mem_map] at hv
  obtain ⟨x, _, rfl⟩ := hv
  rfl
section
variable {w : World} {fb lb cap : Nat} {F : Fs}
def browL (F : Fs) (k : Nat) : List Value := (F.b k).map fun x => Value.int .u8 x
theorem rangeAt_brow (h : FrAt w fb lb cap F) {k : Nat} (hk : k < F.n) : w.rangeAt lb (k * 65) (browL F k) := fun j v hv => by
  have hj := (List.getElem?_eq_some_iff.1 hv).1
  unfold browL at hj hv
  rw [List.length_map, h.ok.len] at hj
  rw [h.byte hk hj, ← hv, List.getElem?_map, List.getD_eq_getElem?_getD, List.getElem?_eq_getElem (by rw [h.ok.len]; exact hj)]; rfl
/-- The least free frame n gets frame k's bytes. -/
def doubleF (F : Fs) (k n : Nat) : Fs := (F.setR n 1).setB n (F.b k)

set_option maxRecDepth 100000 in
set_option maxHeartbeats 4000000 in
theorem frDouble_any (h : FrAt w fb lb cap F) {k : Nat} (hk : k < F.n) (hr : F.r k ≠ 0) {n : Nat} (hn : freeK F = some n) :
    Calls Try.prog 59 #[.pointer (some ⟨fb, 0, none⟩), .int .i64 (k : Int)] w fun e w' =>
      e = .returned (.tuple #[.int .i64 (n : Int), .int .i64 0]) ∧ FrOut w w' fb lb cap (doubleF F k n) := by
  have HM := Lib.hid (frMay_any h k)
  have he : mayE F k = 0 := if_pos ⟨by omega, by omega, by rw [Int.toNat_natCast]; exact hr⟩
  rw [he] at HM
  have HT := Lib.hid (frTake_any h)
  have ht : takeF F = F.setR n 1 := by unfold takeF; rw [hn]
  have ht2 : takeN F = n := by unfold takeN; rw [hn]
  have ht3 : takeE F = 0 := by unfold takeE; rw [hn]; rfl
  rw [ht, ht2, ht3] at HT
  obtain ⟨hnn, hnr⟩ := freeK_some hn
  have hpos := h.ok.pos
  have hki : (k : Int) < (F.n : Int) := by omega
  have hni : (n : Int) < (F.n : Int) := by omega
  have HL := Lib.hid h.ok
  clear h he ht ht2 ht3 hn
  go_enter Try.func59, Try.ntmps59
  go_wp2_with (fail)
  refine HM.out.mono ?_
  rintro e _ ⟨rfl, rfl⟩
  go_wp2_with (fail)
  refine HT.out.mono ?_
  rintro e W1 ⟨rfl, hF, hB⟩
  have HF := Lib.hid hF
  have HB := Lib.hid hB
  clear hF hB
  go_upto_region 7 with (fail)
  have c0 : W1.cell? ⟨fb, 0, none⟩ = some (.slice (some ⟨lb, 0, none⟩) F.n cap) := HF.out.slice
  have hlt := HF.out.p.lt
  have HD := Lib.hid (rangeAt_brow (F := F.setR n 1) HF.out.drew hk)
  have HS := Lib.hid (show (Try.prog.info? 97).map (·.size) = some (browL F k).length from by unfold browL; rw [List.length_map, HL.out.len]; kernel_rfl)
  have hth := HF.out.drew.there hnn
  have hbl : (browL F k).length = 64 := by unfold browL; rw [List.length_map, HL.out.len]
  have hst := run_storeCells_cells (P := Try.prog) lb (n * 65) (browL F k) 0 W1.drew (fun j hj => by rw [hbl] at hj; simpa using (hth j (by omega)).1) (fun j hj => by rw [hbl] at hj; simpa using (hth j (by omega)).2) (brow_one F k)
  simp only [Nat.add_zero] at hst
  have HF2 := Lib.hid (show FrAt (W1.drew.setCells lb (n * 65) (browL F k)) fb lb cap (doubleF F k n) from by
    have h1 := FrAt.putB (fb := fb) (cap := cap) (F.b k) 0 W1.drew (F.setR n 1) hnn HF.out.drew (by rw [HL.out.len]; decide) (HL.out.low k)
    rw [putL_whole (show (F.b k).length = ((F.setR n 1).b n).length by rw [HL.out.len]; exact (HL.out.len n).symm), Nat.add_zero] at h1
    exact h1)
  have HB2 := Lib.hid (but_cells (S := fun k => k = lb) rfl (browL F k) (n * 65) _ _ HB.out.drew)
  clear hth
  have hlt2 := HF.out.lt.2
  go_still_tail 15, (by kernel_rfl)
  repeat still_step
  refine wpStill_load_mid (by kernel_rfl) _ _ rfl lb (k * 65) rfl (browL F k) _ HD.out Try.underlying97 rfl HS.out ?_
  repeat still_step
  refine wpStill_nil ?_
  change wpList _ _ _ _ _ W1.drew
  generalize W1.drew = W2 at *
  go_wp2
  go_ret2
  exact ⟨rfl, HF2.out, HB2.out⟩
end
end Go.Proofs.Ytlecfdchmcghlaa
