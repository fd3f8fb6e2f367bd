/-
  strings.IndexRune among two signs: at any rune. No condition.
-/
import Derived.Laws.Runes
import Derived.LoopN
import Derived.WalkMore
import Derived.Deep.LoopGhost
import Derived.Deep.QuietTactic
import Derived.BigQuiet
import Derived.BigCall
import Derived.BigGuard
import Derived.Laws.RangeString
import Derived.Lib.Hide
import Derived.Test.YtodphfgopngpeaaDoorShelf
import Derived.Test.YtodphfgopngpeaaDoorBase
import Derived.Test.YtodphfgopngpeaaDoorGpPl
namespace Go.Proofs.YtodphfgopngpeaaDoor
open Go.RowKit Go.Shelf
set_option linter.unusedVariables false
set_option linter.unusedSimpArgs false

/-- Two signs. -/
def pmS : ByteArray := ⟨#[43, 45]⟩
/-- Whether a rune is one of them. -/
def Found (r : Nat) (w : World) (e : Ending) (w' : World) : Prop := ∃ n : Int, e = .returned (.int .i64 n) ∧ (0 ≤ n ↔ r = 43 ∨ r = 45) ∧ Below w.heap.size w w'

theorem ixr_low {w : World} (r : Nat) (h : r < 128) : Calls Tryd.prog 38 #[.string ⟨#[43, 45]⟩, .int .i32 r] w (Found r w) := by
  refine (Tryd.strings_IndexRune_ascii ⟨#[43, 45]⟩ (r : Int) w (by omega) (by omega)).mono ?_
  rintro e w' ⟨rfl, rfl⟩
  refine ⟨_, rfl, ?_, Below.refl _ _⟩
  have hx : ∀ x : Fin 128, (0 ≤ Lib.indexByte [43, 45] x.1.toUInt8 ↔ x.1 = 43 ∨ x.1 = 45) := by decide +kernel
  exact hx ⟨r, h⟩

set_option maxRecDepth 100000 in
set_option maxHeartbeats 4000000 in
theorem ixr_err {w : World} : Calls Tryd.prog 38 #[.string ⟨#[43, 45]⟩, .int .i32 65533] w (Found 65533 w) := by
  go_enter Tryd.func38, Tryd.ntmps38
  go_wp2
  go_loopg [5, 6] 2 (fun g _ _ wx => ∃ i : Nat, i + g = 2 ∧ wx = w.iter ⟨#[43, 45]⟩ i)
  case atStart => exact ⟨0, rfl, rfl⟩
  case round =>
    obtain ⟨i, hig, rfl⟩ := hrel
    rcases (show i = 2 ∨ i = 0 ∨ i = 1 by omega) with rfl | rfl | rfl
    · have hnx := fun ty => run_next_end (P := Tryd.prog) w ⟨#[43, 45]⟩ 2 ty (by decide)
      go_wp2
      go_ret
      exact ⟨-1, rfl, by decide, (Below.refl _ _).alloc (Nat.le_refl _) _⟩
    all_goals
      obtain ⟨g, rfl⟩ : ∃ g, gk = g + 1 := ⟨gk - 1, by omega⟩
    · have hnx := fun ty => run_next_ascii (P := Tryd.prog) w ⟨#[43, 45]⟩ 0 ty (by decide) (by decide)
      go_wp2
      go_roundg g
      case measure => omega
      case rel => exact ⟨1, by omega, rfl⟩
    · have hnx := fun ty => run_next_ascii (P := Tryd.prog) w ⟨#[43, 45]⟩ 1 ty (by decide) (by decide)
      go_wp2
      go_roundg g
      case measure => omega
      case rel => exact ⟨2, by omega, rfl⟩

theorem quiet_more {f : FuncId} {args : Array Value} {w : World} {a n : Nat} {v : Value}
    (h : Calls Tryd.prog f args (w.drewN (a + n)) fun e w' => e = .returned v ∧ w' = w.drewN (a + n)) :
    Calls Tryd.prog f args (w.drewN (a + n)) fun e w'' => e = .returned v ∧ ∃ m, w'' = w.drewN (a + m) :=
  h.mono fun _ _ ⟨he, hm⟩ => ⟨he, n, hm⟩
theorem valid_lib (r : Int) : Lib.validRune r = Utf8.valid r := by
  simp only [Utf8.valid, Lib.validRune]
  rw [Bool.eq_iff_iff]
  simp
  omega

set_option maxRecDepth 100000 in
set_option maxHeartbeats 4000000 in
theorem ixr_bad {w : World} (r : Nat) (h0 : 128 ≤ r) (h1 : r ≠ 65533) (hv : Utf8.valid r = false) : Calls Tryd.prog 38 #[.string ⟨#[43, 45]⟩, .int .i32 r] w (Found r w) := by
  have HV := Lib.hid (show ∀ W, Calls Tryd.prog 52 #[.int .i32 (r : Int)] W fun e w' => e = .returned (.bool false) ∧ w' = W from fun W => by
    have h := Tryd.utf8_ValidRune (r : Int) W
    rw [valid_lib, hv] at h
    exact h)
  have h2 : ((r : Int) == 65533) = false := by simpa using (by omega : ¬ (r : Int) = 65533)
  have h3 : ¬ (r : Int) < 128 := by omega
  have h4 : (0 : Int) ≤ r := by omega
  have H1 := Lib.hid h1
  have H0 := Lib.hid h0
  clear hv h1 h0
  go_enter Tryd.func38, Tryd.ntmps38
  go_wp2_with fail
  refine (HV.out _).mono ?_
  rintro e w' ⟨rfl, rfl⟩
  go_wp2
  go_ret
  exact ⟨-1, rfl, ⟨fun h => absurd h (by decide), fun h => by have := H0.out; omega⟩, Below.refl _ _⟩

theorem sign_ne (b0 b1 : UInt8) (hb : 128 ≤ b1.toNat) : ((((⟨#[43, 45]⟩ : ByteArray)[1]'(Nat.lt_succ_self 1)).toNat : Int) != (((⟨#[b0, b1]⟩ : ByteArray)[1]'(Nat.lt_succ_self 1)).toNat : Int)) = true := by
  have h : ¬ (45 : Int) = b1.toNat := by omega
  exact bne_iff_ne.2 h
set_option maxRecDepth 100000 in
set_option maxHeartbeats 4000000 in
theorem ixr_two {w : World} (r : Nat) (h0 : 128 ≤ r) (h1 : r ≠ 65533) (hv : Utf8.valid r = true) (b0 b1 : UInt8) (he : Utf8.encode r = ⟨#[b0, b1]⟩) (hb : 128 ≤ b1.toNat) : Calls Tryd.prog 38 #[.string ⟨#[43, 45]⟩, .int .i32 r] w (Found r w) := by
  have HV := Lib.hid (show ∀ W, Calls Tryd.prog 52 #[.int .i32 (r : Int)] W fun e w' => e = .returned (.bool true) ∧ w' = W from fun W => by
    have h := Tryd.utf8_ValidRune (r : Int) W
    rw [valid_lib, hv] at h
    exact h)
  have hcv : ∀ W, (convert 21 9 (.int .i32 (r : Int))).run Tryd.prog W = .ok (.string ⟨#[b0, b1]⟩) W := fun W => by
    rw [run_convert_int_string W _ _ .i32 (r : Int) (by rw [Tryd.underlying21]; rfl) Tryd.underlying9, he]
  have h2 : ((r : Int) == 65533) = false := by simpa using (by omega : ¬ (r : Int) = 65533)
  have h3 : ¬ (r : Int) < 128 := by omega
  have h4 : (0 : Int) ≤ r := by omega
  have h5 := sign_ne b0 b1 hb
  have HI := Lib.hid (show ∀ W, Calls Tryd.prog 51 #[.string ⟨#[]⟩, .int .u8 (b1.toNat : Int)] W fun e w' => e = .returned (.int .i64 (-1)) ∧ w' = W from fun W => Tryd.strings_IndexByte ⟨#[]⟩ (b1.toNat : Int) W)
  have H1 := Lib.hid h1
  have H0 := Lib.hid h0
  clear hv h1 h0 he hb
  go_enter Tryd.func38, Tryd.ntmps38
  go_wp2_with fail
  refine (HV.out _).mono ?_
  rintro e w' ⟨rfl, rfl⟩
  go_wp2
  go_step3
  go_wp2
  refine wp_loop_rounds 1 ?_
  rw [rounds_succ]
  go_wp2
  go_step3
  go_wp2
  go_quiet (fail)
  go_wp2
  go_quiet ((go_at_call 51; exact quiet_more (HI.out _)))
  go_wp2
  (try rw [Exit.noGoto_ret])
  go_ret
  exact ⟨-1, rfl, ⟨fun h => absurd h (by decide), fun h => by have := H0.out; omega⟩, below_drewN (Below.refl _ _) _⟩

set_option maxRecDepth 100000 in
set_option maxHeartbeats 4000000 in
theorem ixr_more {w : World} (r : Nat) (h0 : 128 ≤ r) (h1 : r ≠ 65533) (hv : Utf8.valid r = true) (t : ByteArray) (he : Utf8.encode r = t) (ht : t.size = 3 ∨ t.size = 4) : Calls Tryd.prog 38 #[.string ⟨#[43, 45]⟩, .int .i32 r] w (Found r w) := by
  have HV := Lib.hid (show ∀ W, Calls Tryd.prog 52 #[.int .i32 (r : Int)] W fun e w' => e = .returned (.bool true) ∧ w' = W from fun W => by
    have h := Tryd.utf8_ValidRune (r : Int) W
    rw [valid_lib, hv] at h
    exact h)
  have hcv : ∀ W, (convert 21 9 (.int .i32 (r : Int))).run Tryd.prog W = .ok (.string t) W := fun W => by
    rw [run_convert_int_string W _ _ .i32 (r : Int) (by rw [Tryd.underlying21]; rfl) Tryd.underlying9, he]
  have h2 : ((r : Int) == 65533) = false := by simpa using (by omega : ¬ (r : Int) = 65533)
  have h3 : ¬ (r : Int) < 128 := by omega
  have h4 : (0 : Int) ≤ r := by omega
  have H1 := Lib.hid h1
  have H0 := Lib.hid h0
  clear hv h1 h0 he
  rcases ht with ht | ht
  all_goals
    have hti : (t.size : Int) = 3 ∨ (t.size : Int) = 4 := by omega
    obtain ⟨k, hk, hk2⟩ : ∃ k : Int, (t.size : Int) - 1 = k ∧ 2 ≤ k := ⟨_, rfl, by omega⟩
    have hk3 : k ≤ 3 := by omega
    have hnk : ¬ k < 2 := by omega
    clear hti ht
    go_enter Tryd.func38, Tryd.ntmps38
    go_wp2_with fail
    refine (HV.out _).mono ?_
    rintro e w' ⟨rfl, rfl⟩
    go_wp2
    go_step3
    go_wp2
    refine wp_loop_rounds 1 ?_
    rw [rounds_succ]
    go_wp2
    (try rw [Exit.noGoto_ret])
    go_ret
    exact ⟨-1, rfl, ⟨fun h => absurd h (by decide), fun h => by have := H0.out; omega⟩, Below.refl _ _⟩
theorem encode_cases {r : Nat} (h0 : 128 ≤ r) (hv : Utf8.valid r = true) : (∃ b0 b1 : UInt8, Utf8.encode r = ⟨#[b0, b1]⟩ ∧ 128 ≤ b1.toNat) ∨ (Utf8.encode r).size = 3 ∨ (Utf8.encode r).size = 4 := by
  have hc : ¬ (r : Int).toNat < 128 := by omega
  unfold Utf8.encode
  simp only [hv, if_true, hc, if_false]
  split
  · refine .inl ⟨_, _, rfl, ?_⟩
    show 128 ≤ (UInt8.ofNat (128 + r % 64)).toNat
    simp; omega
  · split
    · exact .inr (.inl rfl)
    · exact .inr (.inr rfl)
/-- strings.IndexRune among two signs. -/
theorem ixr_any {w : World} (r : Nat) : Calls Tryd.prog 38 #[.string ⟨#[43, 45]⟩, .int .i32 r] w (Found r w) := by
  by_cases h0 : r < 128
  · exact ixr_low r h0
  by_cases h1 : r = 65533
  · subst h1; exact ixr_err
  cases hv : Utf8.valid r
  · exact ixr_bad r (by omega) h1 hv
  · rcases encode_cases (by omega) hv with ⟨b0, b1, he, hb⟩ | ht
    · exact ixr_two r (by omega) h1 hv b0 b1 he hb
    · exact ixr_more r (by omega) h1 hv _ rfl ht
end Go.Proofs.YtodphfgopngpeaaDoor
