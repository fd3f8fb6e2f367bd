/-
  The document's line of what is observed. No condition.
-/
import Derived.Deep.RegionHeld3
import Derived.IntWalk
import Derived.Test.YtpcaeggecojaeaaDoorRfW
import Derived.Test.YtpcaeggecojaeaaDoorTrBkP
import Derived.Test.YtpcaeggecojaeaaDoorRfM
namespace Go.Proofs.YtpcaeggecojaeaaDoor
open Go.RowKit
set_option linter.unusedVariables false
set_option linter.unusedSimpArgs false

set_option maxHeartbeats 4000000 in
theorem refWord_any {w : World} (k : Nat) (h0 : 1 ≤ k) (h1 : k ≤ 4) :
    Calls Tryd.prog 33 #[.int .i64 (k : Int)] w fun e w' => e = .returned (strV (kindW k)) ∧ Below w.heap.size w w' := by
  have h4 : k = 1 ∨ k = 2 ∨ k = 3 ∨ k = 4 := by omega
  rcases h4 with rfl | rfl | rfl | rfl
  all_goals
    go_enter Tryd.func33, Tryd.ntmps33
    go_wp2
    go_ret
    exact ⟨rfl, (Below.refl _ _).alloc (Nat.le_refl _) _⟩

set_option maxRecDepth 100000 in
set_option maxHeartbeats 4000000 in
theorem refLine_no {w : World} (p k c v : Int) (hv : 0 ≤ v) (hm : ¬ May ⟨p, k, c, v⟩) :
    Calls Tryd.prog 14 #[.agg #[.int .i64 p, .int .i64 k, .int .i64 c, .int .u32 v]] w fun e w' => e = .returned (.tuple #[.string ⟨#[]⟩, .int .i64 210]) ∧ Below w.heap.size w w' := by
  have HM := Lib.hid (fun W => refMay_any (w := W) p k c v hv)
  rw [decide_eq_false hm] at HM
  have HB0 := Lib.hid ((Below.refl w.heap.size w).alloc (Nat.le_refl _) (.cells #[.int .i64 p, .int .i64 k, .int .i64 c, .int .u32 v] 27))
  clear hm
  go_enter Tryd.func14, Tryd.ntmps14
  go_wp2_with fail
  refine (HM.out _).mono ?_
  rintro e w1 ⟨rfl, hb1⟩
  have HB1 := Lib.hid (bl_step HB0.out HB0.out.size hb1)
  clear hb1
  go_wp2
  go_ret2
  exact ⟨rfl, HB1.out⟩

theorem itoa_nat (p : Int) (h : 0 ≤ p) : Lib.itoa p = Lib.decDigits p.toNat := by
  unfold Lib.itoa
  rw [if_neg (by omega)]
theorem refDig {w : World} (p : Int) (h0 : 0 ≤ p) (h1 : p < 18446744073709551616) : Calls Tryd.prog 32 #[.int .u64 p] w fun e w' => e = .returned (strV (Lib.itoa p)) ∧ Below w.heap.size w w' := by
  obtain ⟨P, rfl⟩ : ∃ P : Nat, p = P := ⟨p.toNat, by omega⟩
  have h := refDigits_any (w := w) P (by omega)
  rw [itoa_nat _ h0]
  exact h
theorem bytes_app (a b : List UInt8) : (⟨a.toArray⟩ ++ ⟨b.toArray⟩ : ByteArray) = ⟨(a ++ b).toArray⟩ := ByteArray.ext (by rw [ByteArray.data_append]; simp)

set_option maxRecDepth 100000 in
set_option maxHeartbeats 8000000 in
theorem refLine_yes {w : World} (p c : Int) (k u : Nat) (hu : u < 4294967296) (hm : May ⟨p, k, c, u⟩) :
    Calls Tryd.prog 14 #[.agg #[.int .i64 p, .int .i64 k, .int .i64 c, .int .u32 u]] w fun e w' => e = .returned (.tuple #[strV (lineL ⟨p, k, c, u⟩), .int .i64 0]) ∧ Below w.heap.size w w' := by
  have hM := fun W => refMay_any (w := W) p k c u (by omega)
  rw [decide_eq_true hm] at hM
  have HM := Lib.hid hM
  have hp : 1 ≤ p ∧ p ≤ 65535 := ⟨hm.1, hm.2.1⟩
  have hk : 1 ≤ k ∧ k ≤ 4 := by have := hm.2.2.1; have := hm.2.2.2.1; simp only at *; omega
  have hcr : k = 1 → 0 ≤ c ∧ c ≤ 22 := fun h => by have := hm.2.2.2.2.1 (by simp only; omega); simp only at this; exact this
  obtain ⟨sp, hsp⟩ : ∃ sp : ByteArray, sp = ⟨(Lib.itoa p).toArray⟩ := ⟨_, rfl⟩
  obtain ⟨sk, hsk⟩ : ∃ sk : ByteArray, sk = ⟨(kindW k).toArray⟩ := ⟨_, rfl⟩
  obtain ⟨su, hsu⟩ : ∃ su : ByteArray, su = ⟨(Lib.decDigits u).toArray⟩ := ⟨_, rfl⟩
  obtain ⟨sc, hsc⟩ : ∃ sc : ByteArray, sc = ⟨(Lib.itoa c).toArray⟩ := ⟨_, rfl⟩
  have hp0 : (0 : Int) ≤ p := by omega
  have hp1 : p ≤ 65535 := hp.2
  have u0 : (0 : Int) ≤ (u : Int) := by omega
  have u1 : (u : Int) ≤ 4294967295 := by omega
  have HD := Lib.hid (fun (W0 W : World) (hW : Below W0.heap.size W0 W) => show Calls Tryd.prog 32 #[.int .u64 p] W fun e w' => e = .returned (.string sp) ∧ Below W0.heap.size W0 w' from by
    rw [hsp]
    exact (refDig p (by omega) (by omega)).mono fun e w' h => ⟨h.1, bl_step hW hW.size h.2⟩)
  have HK := Lib.hid (fun (W0 W : World) (hW : Below W0.heap.size W0 W) => show Calls Tryd.prog 33 #[.int .i64 (k : Int)] W fun e w' => e = .returned (.string sk) ∧ Below W0.heap.size W0 w' from by
    rw [hsk]
    exact (refWord_any k hk.1 hk.2).mono fun e w' h => ⟨h.1, bl_step hW hW.size h.2⟩)
  have HU := Lib.hid (fun (W : World) => show Calls Tryd.prog 32 #[.int .u64 (u : Int)] W fun e w' => e = .returned (.string su) ∧ Below W.heap.size W w' from by
    rw [hsu]
    exact refDigits_any u (by omega))
  have HC := Lib.hid (fun (h : k = 1) (W : World) => show Calls Tryd.prog 32 #[.int .u64 c] W fun e w' => e = .returned (.string sc) ∧ Below W.heap.size W w' from by
    rw [hsc]
    exact refDig c (hcr h).1 (by have := (hcr h).2; omega))
  have HCR := Lib.hid hcr
  have zp : sp.size ≤ 21 := by rw [hsp]; show (Lib.itoa p).toArray.size ≤ _; rw [List.size_toArray]; exact itoa_len p (by omega) (by omega)
  have zk : sk.size ≤ 6 := by rw [hsk]; show (kindW k).toArray.size ≤ _; rw [List.size_toArray]; exact kindW_len k
  have zu : su.size ≤ 21 := by rw [hsu]; show (Lib.decDigits u).toArray.size ≤ _; rw [List.size_toArray]; have := dec_len (u := u) (by omega); omega
  have zc : k = 1 → sc.size ≤ 21 := fun h => by rw [hsc]; show (Lib.itoa c).toArray.size ≤ _; rw [List.size_toArray]; exact itoa_len c (by have := hcr h; omega) (by have := hcr h; omega)
  have HZC := Lib.hid zc
  have HE1 := Lib.hid (fun (h : k = 1) => show (sp ++ ⟨#[32]⟩ ++ sk ++ ⟨#[32]⟩ ++ sc ++ ⟨#[32]⟩ ++ su : ByteArray) = ⟨(lineL ⟨p, k, c, u⟩).toArray⟩ from by
    have hL : lineW ⟨p, k, c, u⟩ = [Lib.itoa p, kindW k, Lib.itoa c, Lib.decDigits u] := lineW_one h
    refine ByteArray.ext (Array.toList_inj.1 ?_)
    unfold lineL
    rw [hL, hsp, hsk, hsc, hsu]
    simp [ByteArray.data_append, glue])
  have HE2 := Lib.hid (fun (h : k ≠ 1) => show (sp ++ ⟨#[32]⟩ ++ sk ++ ⟨#[32]⟩ ++ su : ByteArray) = ⟨(lineL ⟨p, k, c, u⟩).toArray⟩ from by
    have hL : lineW ⟨p, k, c, u⟩ = [Lib.itoa p, kindW k, Lib.decDigits u] := lineW_two h
    refine ByteArray.ext (Array.toList_inj.1 ?_)
    unfold lineL
    rw [hL, hsp, hsk, hsu]
    simp [ByteArray.data_append, glue])
  have HX0 := Lib.hid (Blk.new w 27 #[.int .i64 p, .int .i64 k, .int .i64 c, .int .u32 u])
  have HB0 := Lib.hid ((Below.refl w.heap.size w).alloc (Nat.le_refl _) (.cells #[.int .i64 p, .int .i64 k, .int .i64 c, .int .u32 u] 27))
  obtain ⟨T, hT⟩ : ∃ T : Value, strV (lineL ⟨p, k, c, u⟩) = T := ⟨_, rfl⟩
  have HT := Lib.hid hT
  rw [hT]
  obtain ⟨x0, x1, x2, x3⟩ := ccells HX0.out
  clear hM hm hp hsp hsk hsu hsc hcr zc hT
  go_enter Tryd.func14, Tryd.ntmps14
  go_wp2_with fail
  refine (HM.out _).mono ?_
  rintro e W1 ⟨rfl, hb⟩
  have HX1 := Lib.hid (HX0.out.below hb HX0.out.lt)
  have HB1 := Lib.hid (bl_step HB0.out HB0.out.size hb)
  clear hb HX0 HB0 HM x0 x1 x2 x3
  have q1 : ¬ 9223372036854775807 < sp.size + 1 := by omega
  have q2 : ¬ 9223372036854775807 < sp.size + 1 + sk.size := by omega
  have HXX := Lib.hid (fun X (hX : Below W1.heap.size W1 X) => show X.cell? ⟨w.heap.size, 0, none⟩ = some (.int .i64 p) ∧ X.cell? ⟨w.heap.size, 1, none⟩ = some (.int .i64 k) from by
    obtain ⟨x0, x1, x2, x3⟩ := ccells (HX1.out.below hX HX1.out.lt)
    exact ⟨x0, x1⟩)
  have HRF := Lib.hid (Below.refl W1.heap.size W1)
  have C0 := Lib.hid (fun X => HD.out W1 X)
  have C1 := Lib.hid (fun X => HK.out W1 X)
  clear HD HK
  generalize hbx : w.heap.size = bx at *
  have HBXX := Lib.hid hbx
  have hbw := HB1.out
  rw [← hbx] at hbw
  have HBW := Lib.hid hbw
  clear hbx hbw
  go_upto_region 4 with (fail)
  have hwp : IntKind.u64.wrap p = p := IntWalk.u64_in p (by omega)
  first
  | (go_region_held3 (fun X => X.cell? ⟨bx, 0, none⟩ = some (.int .i64 p) ∧ X.cell? ⟨bx, 1, none⟩ = some (.int .i64 k))
      (first | exact (have h : Below W1.heap.size W1 _ := (by repeat (first | assumption | exact HRF.out | refine Below.drew ?_)); HXX.out _ h))
      (first
        | (go_at_call 32; refine (C0.out _ ?_).mono ?_; (focus (repeat (first | assumption | exact HRF.out | refine Below.drew ?_))); rintro e W6 ⟨rfl, hW6⟩)
        | (go_at_call 33; refine (C1.out _ ?_).mono ?_; (focus (repeat (first | assumption | exact HRF.out | refine Below.drew ?_))); rintro e W6 ⟨rfl, hW6⟩)))
  | (fail)
  all_goals
    rename World => wn
    have hbn : Below W1.heap.size W1 wn := by assumption
    have HXN := Lib.hid (HX1.out.below hbn HX1.out.lt)
    have HBN := Lib.hid (HBW.out.trans (hbn.mono HBW.out.size))
    clear hbn HX1 HB1 HXX HRF C0 C1 HBW
    obtain ⟨x0, x1, x2, x3⟩ := ccells HXN.out
    by_cases hk1 : k = 1
    · have hkb : (k : Int) = 1 := by omega
      have zc := HZC.out hk1
      have hc := HCR.out hk1
      have HCC := Lib.hid (HC.out hk1)
      have HE := Lib.hid (HE1.out hk1)
      have hc0 : (0 : Int) ≤ c := hc.1
      have hc1 : c ≤ 22 := hc.2
      have q3 : ¬ 9223372036854775807 < sp.size + 1 + sk.size + 1 := by omega
      have q4 : ¬ 9223372036854775807 < sp.size + 1 + sk.size + 1 + sc.size := by omega
      have q5 : ¬ 9223372036854775807 < sp.size + 1 + sk.size + 1 + sc.size + 1 := by omega
      have q6 : ¬ 9223372036854775807 < sp.size + 1 + sk.size + 1 + sc.size + 1 + su.size := by omega
      clear hk1 hc HZC HCR HC HE1 HE2
      go_wp2_with fail
      refine (HCC.out _).mono ?_
      rintro e W7 ⟨rfl, hb7⟩
      have HX7 := Lib.hid (HXN.out.below hb7 HXN.out.lt)
      have HB7 := Lib.hid (HBN.out.trans (hb7.mono HBN.out.size))
      clear hb7 HXN HBN x0 x1 x2 x3 HCC
      obtain ⟨x0, x1, x2, x3⟩ := ccells HX7.out
      go_wp2_with fail
      refine (HU.out _).mono ?_
      rintro e W8 ⟨rfl, hb8⟩
      have HB8 := Lib.hid (HB7.out.trans (hb8.mono HB7.out.size))
      clear hb8 HX7 HB7 x0 x1 x2 x3
      go_wp2
      go_ret2
      exact ⟨by rw [← HT.out]; unfold strV; rw [← HE.out]; rfl, HB8.out⟩
    · have hkb : ¬ (k : Int) = 1 := by omega
      have HE := Lib.hid (HE2.out hk1)
      have q3 : ¬ 9223372036854775807 < sp.size + 1 + sk.size + 1 := by omega
      have q4 : ¬ 9223372036854775807 < sp.size + 1 + sk.size + 1 + su.size := by omega
      clear hk1 HZC HCR HC HE1 HE2
      go_wp2_with fail
      refine (HU.out _).mono ?_
      rintro e W8 ⟨rfl, hb8⟩
      have HB8 := Lib.hid (HBN.out.trans (hb8.mono HBN.out.size))
      clear hb8 HXN HBN x0 x1 x2 x3
      go_wp2
      go_ret2
      exact ⟨by rw [← HT.out]; unfold strV; rw [← HE.out]; rfl, HB8.out⟩
end Go.Proofs.YtpcaeggecojaeaaDoor
