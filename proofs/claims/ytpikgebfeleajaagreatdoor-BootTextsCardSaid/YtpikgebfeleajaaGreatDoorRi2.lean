/-
  The document's May, walked: all ways; what it says. No condition.
-/
import Derived.Deep.QuietTactic
import Derived.Test.YtpikgebfeleajaaGreatDoorRi2h
import Derived.Test.YtpikgebfeleajaaGreatDoorRi2b
import Derived.Test.YtpikgebfeleajaaGreatDoorRi2d
namespace Go.Proofs.YtpikgebfeleajaaGreatDoor.I
open Go.RowKit
set_option linter.unusedVariables false
set_option linter.unusedSimpArgs false
attribute [local go_sem] Oper.semAt_some

set_option maxRecDepth 100000 in
set_option maxHeartbeats 8000000 in
theorem may_walk {w : World} (n a b m ma mb : Int) (nm l : ByteArray) (pa pb pc R : Bool) (h0 : nm.toList.isEmpty = false)
    (HN : Hid (∀ W, Calls Tryz.prog 75 #[.int .i64 n] W fun e w' => e = .returned (.string nm) ∧ Below W.heap.size W w'))
    (HL : Hid (∀ W, Calls Tryz.prog 76 #[.int .i64 n] W fun e w' => e = .returned (.string l) ∧ w' = W))
    (HA : Hid (∀ W, Calls Tryz.prog 100 #[.string l, .int .u8 97] W fun e w' => e = .returned (.bool pa) ∧ w' = W))
    (HB : Hid (∀ W, Calls Tryz.prog 100 #[.string l, .int .u8 98] W fun e w' => e = .returned (.bool pb) ∧ w' = W))
    (HC : Hid (∀ W, Calls Tryz.prog 100 #[.string l, .int .u8 105] W fun e w' => e = .returned (.bool pc) ∧ w' = W))
    (HMA : Hid (∀ W, Calls Tryz.prog 101 #[.int .i64 n, .int .u8 97] W fun e w' => e = .returned (.int .i64 ma) ∧ w' = W))
    (HMB : Hid (∀ W, Calls Tryz.prog 101 #[.int .i64 n, .int .u8 98] W fun e w' => e = .returned (.int .i64 mb) ∧ w' = W))
    (HR : Hid ((FldI pa ma a ∧ FldI pb mb b ∧ ImmI pc m → R = true) ∧ (¬ (FldI pa ma a ∧ FldI pb mb b ∧ ImmI pc m) → R = false))) :
    Calls Tryz.prog 74 #[.agg #[.int .i64 n, .int .i64 a, .int .i64 b, .int .i64 m]] w fun e w' => e = .returned (.bool R) ∧ Below w.heap.size w w' := by
  have sa : (pa = true ∧ a < 0) ∨ (pa = true ∧ ¬ a < 0 ∧ ma < a) ∨ (pa = true ∧ ¬ a < 0 ∧ ¬ ma < a) ∨ (pa = false ∧ ¬ a = 0) ∨ (pa = false ∧ a = 0) := by
    cases pa
    · by_cases h : a = 0 <;> simp [h]
    · by_cases h : a < 0
      · simp [h]
      · by_cases h2 : ma < a <;> simp [h, h2]
  have sb : (pb = true ∧ b < 0) ∨ (pb = true ∧ ¬ b < 0 ∧ mb < b) ∨ (pb = true ∧ ¬ b < 0 ∧ ¬ mb < b) ∨ (pb = false ∧ ¬ b = 0) ∨ (pb = false ∧ b = 0) := by
    cases pb
    · by_cases h : b = 0 <;> simp [h]
    · by_cases h : b < 0
      · simp [h]
      · by_cases h2 : mb < b <;> simp [h, h2]
  rcases sa with ⟨rfl, h1⟩ | ⟨rfl, h1, h2⟩ | ⟨rfl, h1, h2⟩ | ⟨rfl, h1⟩ | ⟨rfl, rfl⟩
  · exact may_w0 n a b m ma mb nm l pb pc R h0 HN HL HA HB HC HMA HMB HR h1
  · exact may_w1 n a b m ma mb nm l pb pc R h0 HN HL HA HB HC HMA HMB HR h1 h2
  · rcases sb with ⟨rfl, g1⟩ | ⟨rfl, g1, g2⟩ | ⟨rfl, g1, g2⟩ | ⟨rfl, g1⟩ | ⟨rfl, rfl⟩
    · exact may_w20 n a b m ma mb nm l pc R h0 HN HL HA HB HC HMA HMB HR h1 h2 g1
    · exact may_w21 n a b m ma mb nm l pc R h0 HN HL HA HB HC HMA HMB HR h1 h2 g1 g2
    · cases pc
      · exact may_w22f n a b m ma mb nm l R h0 HN HL HA HB HC HMA HMB HR h1 h2 g1 g2
      · exact may_w22t n a b m ma mb nm l R h0 HN HL HA HB HC HMA HMB HR h1 h2 g1 g2
    · exact may_w23 n a b m ma mb nm l pc R h0 HN HL HA HB HC HMA HMB HR h1 h2 g1
    · cases pc
      · exact may_w24f n a m ma mb nm l R h0 HN HL HA HB HC HMA HMB HR h1 h2 
      · exact may_w24t n a m ma mb nm l R h0 HN HL HA HB HC HMA HMB HR h1 h2 
  · exact may_w3 n a b m ma mb nm l pb pc R h0 HN HL HA HB HC HMA HMB HR h1
  · rcases sb with ⟨rfl, g1⟩ | ⟨rfl, g1, g2⟩ | ⟨rfl, g1, g2⟩ | ⟨rfl, g1⟩ | ⟨rfl, rfl⟩
    · exact may_w40 n b m ma mb nm l pc R h0 HN HL HA HB HC HMA HMB HR  g1
    · exact may_w41 n b m ma mb nm l pc R h0 HN HL HA HB HC HMA HMB HR  g1 g2
    · cases pc
      · exact may_w42f n b m ma mb nm l R h0 HN HL HA HB HC HMA HMB HR  g1 g2
      · exact may_w42t n b m ma mb nm l R h0 HN HL HA HB HC HMA HMB HR  g1 g2
    · exact may_w43 n b m ma mb nm l pc R h0 HN HL HA HB HC HMA HMB HR  g1
    · cases pc
      · exact may_w44f n m ma mb nm l R h0 HN HL HA HB HC HMA HMB HR  
      · exact may_w44t n m ma mb nm l R h0 HN HL HA HB HC HMA HMB HR  

theorem may_iff {k : Nat} (hk : k < 30) (a b m : Int) : (FldI (decide ((97 : UInt8) ∈ letsI (k : Int))) (mostI k 97) a ∧ FldI (decide ((98 : UInt8) ∈ letsI (k : Int))) (mostI k 98) b ∧ ImmI (decide ((105 : UInt8) ∈ letsI (k : Int))) m) ↔ MayI ⟨k, a, b, m⟩ := by
  obtain ⟨e1, e2, e3, e4, e5, _, _⟩ := fld_row ⟨k, hk⟩
  dsimp only at e1 e2 e3 e4 e5
  rw [e1, e2, e3]
  unfold MayI FldI ImmI
  simp only
  rw [fR_in hk]
  simp only [decide_eq_true_eq, decide_eq_false_iff_not]
  have r1 := fA_range (k : Int)
  have r2 := fB_range (k : Int)
  rw [fR_in hk] at r1 r2
  generalize fA k = A at *
  generalize fB k = B at *
  generalize mostI k 97 = MA at *
  generalize mostI k 98 = MB at *
  by_cases h1 : 0 ≤ A
  · have := e4 h1
    by_cases h2 : 0 ≤ B
    · have := e5 h2
      cases fI k <;> simp <;> omega
    · cases fI k <;> simp <;> omega
  · by_cases h2 : 0 ≤ B
    · have := e5 h2
      cases fI k <;> simp <;> omega
    · cases fI k <;> simp <;> omega
set_option maxHeartbeats 2000000 in
theorem refMay_any {w : World} (n a b m : Int) : Calls Tryz.prog 74 #[.agg #[.int .i64 n, .int .i64 a, .int .i64 b, .int .i64 m]] w fun e w' => e = .returned (.bool (decide (MayI ⟨n, a, b, m⟩))) ∧ Below w.heap.size w w' := by
  by_cases h : 0 ≤ n ∧ n < 30
  · obtain ⟨k, rfl⟩ := Int.eq_ofNat_of_zero_le h.1
    have hk : k < 30 := by omega
    obtain ⟨_, _, _, _, _, e6, e7⟩ := fld_row ⟨k, hk⟩
    have hz : (⟨(letsI (k : Int)).toArray⟩ : ByteArray).size ≤ 1000000 := by
      show (letsI (k : Int)).toArray.size ≤ _
      rw [List.size_toArray]
      dsimp only at e7
      omega
    have hi := may_iff hk a b m
    refine may_walk (k : Int) a b m (mostI k 97) (mostI k 98) (fN k) ⟨(letsI (k : Int)).toArray⟩ (decide ((97 : UInt8) ∈ letsI (k : Int))) (decide ((98 : UInt8) ∈ letsI (k : Int))) (decide ((105 : UInt8) ∈ letsI (k : Int))) _ e6
      (Lib.hid fun W => by have := refName_any (w := W) (k : Int); rw [fR_in hk] at this; exact this) (Lib.hid fun W => refNames_any (w := W) (k : Int))
      (Lib.hid fun W => refHas_any (w := W) _ hz 97) (Lib.hid fun W => refHas_any (w := W) _ hz 98) (Lib.hid fun W => refHas_any (w := W) _ hz 105)
      (Lib.hid fun W => refMost_any (w := W) _ 97) (Lib.hid fun W => refMost_any (w := W) _ 98) (Lib.hid ⟨fun h => decide_eq_true (hi.1 h), fun h => decide_eq_false fun e => h (hi.2 e)⟩)
  · have hm : ¬ MayI ⟨n, a, b, m⟩ := fun e => h e.1
    rw [decide_eq_false hm]
    have HN := Lib.hid (fun W => show Calls Tryz.prog 75 #[.int .i64 n] W fun e w' => e = .returned (.string ⟨#[]⟩) ∧ Below W.heap.size W w' from by
      have := refName_any (w := W) n
      rw [fR_out h] at this
      exact this)
    have HB0 := Lib.hid ((Below.refl w.heap.size w).alloc (Nat.le_refl _) (.cells #[.int .i64 n, .int .i64 a, .int .i64 b, .int .i64 m] 86))
    clear h hm
    go_enter Tryz.func74, Tryz.ntmps74
    go_wp2_with fail
    refine (HN.out _).mono ?_
    rintro e W ⟨rfl, hb⟩
    have HBW := Lib.hid (bl_step HB0.out hb)
    clear hb
    go_wp2
    go_ret
    exact ⟨rfl, HBW.out⟩
theorem mayC : MayC := fun W n a b m => refMay_any (w := W) n a b m
end Go.Proofs.YtpikgebfeleajaaGreatDoor.I
