/-
  The document's Encode and Decode. No condition.
-/
import Derived.Deep.QuietTactic
import Derived.Test.YtoglmemmdolbmaaDoorRi2h
import Derived.Test.YtoglmemmdolbmaaDoorRi2b
import Derived.Test.YtoglmemmdolbmaaDoorRi2d
namespace Go.Proofs.YtoglmemmdolbmaaDoor.I
section
open Go.RowKit
set_option linter.unusedVariables false
set_option linter.unusedSimpArgs false
attribute [local go_sem] Oper.semAt_some

set_option maxRecDepth 100000 in
set_option maxHeartbeats 8000000 in
theorem may_walk {w : World} (n a b m ma mb : Int) (nm l : ByteArray) (pa pb pc R : Bool) (h0 : nm.toList.isEmpty = false)
    (HN : Hid (∀ W, Calls Tryd.prog 73 #[.int .i64 n] W fun e w' => e = .returned (.string nm) ∧ Below W.heap.size W w'))
    (HL : Hid (∀ W, Calls Tryd.prog 74 #[.int .i64 n] W fun e w' => e = .returned (.string l) ∧ w' = W))
    (HA : Hid (∀ W, Calls Tryd.prog 75 #[.string l, .int .u8 97] W fun e w' => e = .returned (.bool pa) ∧ w' = W))
    (HB : Hid (∀ W, Calls Tryd.prog 75 #[.string l, .int .u8 98] W fun e w' => e = .returned (.bool pb) ∧ w' = W))
    (HC : Hid (∀ W, Calls Tryd.prog 75 #[.string l, .int .u8 105] W fun e w' => e = .returned (.bool pc) ∧ w' = W))
    (HMA : Hid (∀ W, Calls Tryd.prog 76 #[.int .i64 n, .int .u8 97] W fun e w' => e = .returned (.int .i64 ma) ∧ w' = W))
    (HMB : Hid (∀ W, Calls Tryd.prog 76 #[.int .i64 n, .int .u8 98] W fun e w' => e = .returned (.int .i64 mb) ∧ w' = W))
    (HR : Hid ((FldI pa ma a ∧ FldI pb mb b ∧ ImmI pc m → R = true) ∧ (¬ (FldI pa ma a ∧ FldI pb mb b ∧ ImmI pc m) → R = false))) :
    Calls Tryd.prog 53 #[.agg #[.int .i64 n, .int .i64 a, .int .i64 b, .int .i64 m]] w fun e w' => e = .returned (.bool R) ∧ Below w.heap.size w w' := by
  have sa : (pa = true ∧ a < 0) ∨ (pa = true ∧ ¬ a < 0 ∧ ma < a) ∨ (pa = true ∧ ¬ a < 0 ∧ ¬ ma < a) ∨ (pa = false ∧ ¬ a = 0) ∨ (pa = false ∧ a = 0) := by
    cases pa
    · by_cases h : a = 0 <;> simp [h]
    · by_cases h : a < 0
      · simp [h]
      · by_cases h2 : ma < a <;> simp [h, h2]
  have sb : (pb = true ∧ b < 0) ∨ (pb = true ∧ ¬ b < 0 ∧ mb < b) ∨ (pb = true ∧ ¬ b < 0 ∧ ¬ mb < b) ∨ (pb = false ∧ ¬ b = 0) ∨ (pb = false ∧ b = 0) := by
    cases pb
    · by_cases h : b = 0 <;> simp [h]
    · by_cases h : b < 0
      · simp [h]
      · by_cases h2 : mb < b <;> simp [h, h2]
  rcases sa with ⟨rfl, h1⟩ | ⟨rfl, h1, h2⟩ | ⟨rfl, h1, h2⟩ | ⟨rfl, h1⟩ | ⟨rfl, rfl⟩
  · exact may_w0 n a b m ma mb nm l pb pc R h0 HN HL HA HB HC HMA HMB HR h1
  · exact may_w1 n a b m ma mb nm l pb pc R h0 HN HL HA HB HC HMA HMB HR h1 h2
  · rcases sb with ⟨rfl, g1⟩ | ⟨rfl, g1, g2⟩ | ⟨rfl, g1, g2⟩ | ⟨rfl, g1⟩ | ⟨rfl, rfl⟩
    · exact may_w20 n a b m ma mb nm l pc R h0 HN HL HA HB HC HMA HMB HR h1 h2 g1
    · exact may_w21 n a b m ma mb nm l pc R h0 HN HL HA HB HC HMA HMB HR h1 h2 g1 g2
    · cases pc
      · exact may_w22f n a b m ma mb nm l R h0 HN HL HA HB HC HMA HMB HR h1 h2 g1 g2
      · exact may_w22t n a b m ma mb nm l R h0 HN HL HA HB HC HMA HMB HR h1 h2 g1 g2
    · exact may_w23 n a b m ma mb nm l pc R h0 HN HL HA HB HC HMA HMB HR h1 h2 g1
    · cases pc
      · exact may_w24f n a m ma mb nm l R h0 HN HL HA HB HC HMA HMB HR h1 h2 
      · exact may_w24t n a m ma mb nm l R h0 HN HL HA HB HC HMA HMB HR h1 h2 
  · exact may_w3 n a b m ma mb nm l pb pc R h0 HN HL HA HB HC HMA HMB HR h1
  · rcases sb with ⟨rfl, g1⟩ | ⟨rfl, g1, g2⟩ | ⟨rfl, g1, g2⟩ | ⟨rfl, g1⟩ | ⟨rfl, rfl⟩
    · exact may_w40 n b m ma mb nm l pc R h0 HN HL HA HB HC HMA HMB HR  g1
    · exact may_w41 n b m ma mb nm l pc R h0 HN HL HA HB HC HMA HMB HR  g1 g2
    · cases pc
      · exact may_w42f n b m ma mb nm l R h0 HN HL HA HB HC HMA HMB HR  g1 g2
      · exact may_w42t n b m ma mb nm l R h0 HN HL HA HB HC HMA HMB HR  g1 g2
    · exact may_w43 n b m ma mb nm l pc R h0 HN HL HA HB HC HMA HMB HR  g1
    · cases pc
      · exact may_w44f n m ma mb nm l R h0 HN HL HA HB HC HMA HMB HR  
      · exact may_w44t n m ma mb nm l R h0 HN HL HA HB HC HMA HMB HR  

theorem may_iff {k : Nat} (hk : k < 30) (a b m : Int) : (FldI (decide ((97 : UInt8) ∈ letsI (k : Int))) (mostI k 97) a ∧ FldI (decide ((98 : UInt8) ∈ letsI (k : Int))) (mostI k 98) b ∧ ImmI (decide ((105 : UInt8) ∈ letsI (k : Int))) m) ↔ MayI ⟨k, a, b, m⟩ := by
  obtain ⟨e1, e2, e3, e4, e5, _, _⟩ := fld_row ⟨k, hk⟩
  dsimp only at e1 e2 e3 e4 e5
  rw [e1, e2, e3]
  unfold MayI FldI ImmI
  simp only
  rw [fR_in hk]
  simp only [decide_eq_true_eq, decide_eq_false_iff_not]
  have r1 := fA_range (k : Int)
  have r2 := fB_range (k : Int)
  rw [fR_in hk] at r1 r2
  generalize fA k = A at *
  generalize fB k = B at *
  generalize mostI k 97 = MA at *
  generalize mostI k 98 = MB at *
  by_cases h1 : 0 ≤ A
  · have := e4 h1
    by_cases h2 : 0 ≤ B
    · have := e5 h2
      cases fI k <;> simp <;> omega
    · cases fI k <;> simp <;> omega
  · by_cases h2 : 0 ≤ B
    · have := e5 h2
      cases fI k <;> simp <;> omega
    · cases fI k <;> simp <;> omega
set_option maxHeartbeats 2000000 in
theorem refMay_any {w : World} (n a b m : Int) : Calls Tryd.prog 53 #[.agg #[.int .i64 n, .int .i64 a, .int .i64 b, .int .i64 m]] w fun e w' => e = .returned (.bool (decide (MayI ⟨n, a, b, m⟩))) ∧ Below w.heap.size w w' := by
  by_cases h : 0 ≤ n ∧ n < 30
  · obtain ⟨k, rfl⟩ := Int.eq_ofNat_of_zero_le h.1
    have hk : k < 30 := by omega
    obtain ⟨_, _, _, _, _, e6, e7⟩ := fld_row ⟨k, hk⟩
    have hz : (⟨(letsI (k : Int)).toArray⟩ : ByteArray).size ≤ 1000000 := by
      show (letsI (k : Int)).toArray.size ≤ _
      rw [List.size_toArray]
      dsimp only at e7
      omega
    have hi := may_iff hk a b m
    refine may_walk (k : Int) a b m (mostI k 97) (mostI k 98) (fN k) ⟨(letsI (k : Int)).toArray⟩ (decide ((97 : UInt8) ∈ letsI (k : Int))) (decide ((98 : UInt8) ∈ letsI (k : Int))) (decide ((105 : UInt8) ∈ letsI (k : Int))) _ e6
      (Lib.hid fun W => by have := refName_any (w := W) (k : Int); rw [fR_in hk] at this; exact this) (Lib.hid fun W => refNames_any (w := W) (k : Int))
      (Lib.hid fun W => refHas_any (w := W) _ hz 97) (Lib.hid fun W => refHas_any (w := W) _ hz 98) (Lib.hid fun W => refHas_any (w := W) _ hz 105)
      (Lib.hid fun W => refMost_any (w := W) _ 97) (Lib.hid fun W => refMost_any (w := W) _ 98) (Lib.hid ⟨fun h => decide_eq_true (hi.1 h), fun h => decide_eq_false fun e => h (hi.2 e)⟩)
  · have hm : ¬ MayI ⟨n, a, b, m⟩ := fun e => h e.1
    rw [decide_eq_false hm]
    have HN := Lib.hid (fun W => show Calls Tryd.prog 73 #[.int .i64 n] W fun e w' => e = .returned (.string ⟨#[]⟩) ∧ Below W.heap.size W w' from by
      have := refName_any (w := W) n
      rw [fR_out h] at this
      exact this)
    have HB0 := Lib.hid ((Below.refl w.heap.size w).alloc (Nat.le_refl _) (.cells #[.int .i64 n, .int .i64 a, .int .i64 b, .int .i64 m] 38))
    clear h hm
    go_enter Tryd.func53, Tryd.ntmps53
    go_wp2_with fail
    refine (HN.out _).mono ?_
    rintro e W ⟨rfl, hb⟩
    have HBW := Lib.hid (bl_step HB0.out hb)
    clear hb
    go_wp2
    go_ret
    exact ⟨rfl, HBW.out⟩
theorem mayC : MayC := fun W n a b m => refMay_any (w := W) n a b m
end
end Go.Proofs.YtoglmemmdolbmaaDoor.I
namespace Go.Proofs.YtoglmemmdolbmaaDoor.I
section
open Go.RowKit
set_option linter.unusedVariables false
set_option linter.unusedSimpArgs false
attribute [local go_sem] Oper.semAt_some

set_option maxRecDepth 100000 in
set_option maxHeartbeats 8000000 in
theorem refDecode_any (hM : MayC) {w : World} (n : Int) (hn : RangeW n) : Calls Tryd.prog 31 #[.int .u32 n] w fun e w' => e = .returned (.tuple #[.agg (decO n).cells.toArray, .int .i64 (errI (decI n))]) ∧ Below w.heap.size w w' := by
  unfold RangeW at hn
  obtain ⟨n0, n1⟩ := hn
  have t1 : (n / 1048576).tmod 16 = n / 1048576 % 16 := Int.tmod_eq_emod_of_nonneg (by omega)
  have t2 : (n / 65536).tmod 16 = n / 65536 % 16 := Int.tmod_eq_emod_of_nonneg (by omega)
  have t3 : n.tmod 65536 = n % 65536 := Int.tmod_eq_emod_of_nonneg (by omega)
  obtain ⟨op, hop⟩ : ∃ op, n / 16777216 = op := ⟨_, rfl⟩
  obtain ⟨a, ha⟩ : ∃ a, n / 1048576 % 16 = a := ⟨_, rfl⟩
  obtain ⟨b, hb⟩ : ∃ b, n / 65536 % 16 = b := ⟨_, rfl⟩
  obtain ⟨i0, hi0⟩ : ∃ i0, n % 65536 = i0 := ⟨_, rfl⟩
  have hi1 : 0 ≤ i0 ∧ i0 < 65536 := by omega
  obtain ⟨im, him⟩ : ∃ im, (if i0 < 32768 then i0 else i0 - 65536) = im := ⟨_, rfl⟩
  have hde : decI n = ⟨op, a, b, im⟩ := by unfold decI; rw [hop, ha, hb, hi0, him]
  have hb0 := bl_new ((Below.refl w.heap.size w).alloc (Nat.le_refl _) (.cells #[.int .i64 0, .int .i64 0, .int .i64 0, .int .i64 0] 38)) (.cells #[.int .i64 op, .int .i64 a, .int .i64 b, .int .i64 i0] 38)
  have hr0 := (Blk.new w 38 #[.int .i64 0, .int .i64 0, .int .i64 0, .int .i64 0]).alloc (.cells #[.int .i64 op, .int .i64 a, .int .i64 b, .int .i64 i0] 38)
  have hx0 := Blk.new (w.alloc (.cells #[.int .i64 0, .int .i64 0, .int .i64 0, .int .i64 0] 38)) 38 #[.int .i64 op, .int .i64 a, .int .i64 b, .int .i64 i0]
  simp only [World.size_alloc] at hx0
  have H := Lib.hid (fun W => hM W op a b im)
  have hm : (∃ R, R = true ∧ decide (MayI ⟨op, a, b, im⟩) = R ∧ decO n = ⟨op, a, b, im⟩ ∧ errI ⟨op, a, b, im⟩ = 0) ∨ (∃ R, R = false ∧ decide (MayI ⟨op, a, b, im⟩) = R ∧ decO n = x0 ∧ errI ⟨op, a, b, im⟩ = 30) := by
    unfold decO
    rw [hde]
    by_cases h : MayI ⟨op, a, b, im⟩
    · rw [if_pos h]; exact .inl ⟨true, rfl, decide_eq_true h, rfl, errI_yes h⟩
    · rw [if_neg h]; exact .inr ⟨false, rfl, decide_eq_false h, rfl, errI_no h⟩
  rw [hde]
  clear hde
  have HX0 := Lib.hid hx0
  have HR0 := Lib.hid hr0
  have HB0 := Lib.hid hb0
  obtain ⟨c0, c1, c2, c3, clt⟩ := ccells hx0
  have f3 := hx0.frozen 3
  clear hx0 hr0 hb0
  rcases hm with ⟨R, hR, hd, hdo, her⟩ | ⟨R, hR, hd, hdo, her⟩
  all_goals
    rw [hd, hR] at H
    rw [hdo, her]
    clear hd hR hdo her
    by_cases hlt : i0 < 32768
    · rw [if_pos hlt] at him
      subst him
      have hgt : ¬ (32767 : Int) < i0 := by omega
      go_enter Tryd.func31, Tryd.ntmps31
      go_wp2_with fail
      refine (H.out _).mono ?_
      rintro e w1 ⟨rfl, hb1⟩
      have hx1 := HX0.out.below hb1 HX0.out.lt
      have hr1 := HR0.out.below hb1 HR0.out.lt
      have HB1 := Lib.hid (bl_step HB0.out hb1)
      have g0 := hr1.frozen 0
      have g1 := hr1.frozen 1
      have g2 := hr1.frozen 2
      have g3 := hr1.frozen 3
      clear c0 c1 c2 c3 clt f3 hb1 HX0 HR0 HB0
      obtain ⟨c0, c1, c2, c3, clt⟩ := ccells hx1
      obtain ⟨d0, d1, d2, d3, dlt⟩ := ccells hr1
      have HR1 := Lib.hid hr1
      clear hx1 hr1 H
      go_wp2
      exact bodyPost_ret (results_row_tmp Tryd.results31 _ rfl (set4_blk HR1.out _ _ _ _) Tryd.underlying38 rfl (by kernel_rfl)) rfl ⟨rfl, set4_below HB1.out (Nat.le_refl _) _ _ _ _⟩
    · rw [if_neg hlt] at him
      have hgt : (32767 : Int) < i0 := by omega
      have w0 : wrap64 (i0 - 65536) = i0 - 65536 := by simp only [wrap64]; omega
      go_enter Tryd.func31, Tryd.ntmps31
      go_wp2_with fail
      have hx2 := Blk.new (w.alloc (.cells #[.int .i64 0, .int .i64 0, .int .i64 0, .int .i64 0] 38)) 38 #[.int .i64 op, .int .i64 a, .int .i64 b, .int .i64 im]
      simp only [World.size_alloc] at hx2
      have hr2 := (Blk.new w 38 #[.int .i64 0, .int .i64 0, .int .i64 0, .int .i64 0]).alloc (.cells #[.int .i64 op, .int .i64 a, .int .i64 b, .int .i64 im] 38)
      have hb2 := bl_new ((Below.refl w.heap.size w).alloc (Nat.le_refl _) (.cells #[.int .i64 0, .int .i64 0, .int .i64 0, .int .i64 0] 38)) (.cells #[.int .i64 op, .int .i64 a, .int .i64 b, .int .i64 im] 38)
      refine (H.out _).mono ?_
      rintro e w1 ⟨rfl, hb1⟩
      have hx1 := hx2.below hb1 hx2.lt
      have hr1 := hr2.below hb1 hr2.lt
      have HB1 := Lib.hid (bl_step hb2 hb1)
      have g0 := hr1.frozen 0
      have g1 := hr1.frozen 1
      have g2 := hr1.frozen 2
      have g3 := hr1.frozen 3
      clear c0 c1 c2 c3 clt f3 hb1 HX0 HR0 HB0 hx2 hr2 hb2
      obtain ⟨c0, c1, c2, c3, clt⟩ := ccells hx1
      obtain ⟨d0, d1, d2, d3, dlt⟩ := ccells hr1
      have HR1 := Lib.hid hr1
      clear hx1 hr1 H
      go_wp2
      exact bodyPost_ret (results_row_tmp Tryd.results31 _ rfl (set4_blk HR1.out _ _ _ _) Tryd.underlying38 rfl (by kernel_rfl)) rfl ⟨rfl, set4_below HB1.out (Nat.le_refl _) _ _ _ _⟩
end
end Go.Proofs.YtoglmemmdolbmaaDoor.I
