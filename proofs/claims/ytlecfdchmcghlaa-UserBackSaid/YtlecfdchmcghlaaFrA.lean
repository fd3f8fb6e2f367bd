/-
  Write of frames, of bytes that lie in one. Condition: the frames lie in blocks of their own, the bytes can be read.
-/
import Derived.Laws.IdiomCopy
import Derived.Test.YtlecfdchmcghlaaFr9
namespace Go.Proofs.Ytlecfdchmcghlaa
open Go.RowKit Go.Lib Go.Shelf
set_option linter.unusedVariables false
set_option linter.unusedSimpArgs false

theorem sizeB : (Try.prog.info? 5).map (·.size) = some 1 := by kernel_rfl
section
variable {w : World} {fb lb cap : Nat} {F : Fs}
/-- Bytes are put into frame k. -/
def writeF (F : Fs) (k off : Nat) (bs : List Int) : Fs := F.setB k (putL (F.b k) off bs)

set_option maxRecDepth 100000 in
set_option maxHeartbeats 4000000 in
theorem frWrite_any (h : FrAt w fb lb cap F) {k : Nat} (hk : k < F.n) (hr : F.r k ≠ 0) (off : Nat) (a : Addr) (c : Nat) (bs : List Int) (hof : off < 64) (hon : off + bs.length ≤ 64) (hlow : ∀ x ∈ bs, 0 ≤ x ∧ x ≤ 255)
    (hsrc : ∀ (j : Nat) (v : Value), (bs.map fun x => Value.int .u8 x)[j]? = some v → w.cell? (a.add j) = some v) :
    Calls Try.prog 39 #[.pointer (some ⟨fb, 0, none⟩), .int .i64 (k : Int), .int .i64 (off : Int), .slice (some a) bs.length c] w fun e w' =>
      e = .returned (.int .i64 0) ∧ FrOut w w' fb lb cap (writeF F k off bs) := by
  have HM := Lib.hid (frMay_any h k)
  have he : mayE F k = 0 := if_pos ⟨by omega, by omega, by rw [Int.toNat_natCast]; exact hr⟩
  rw [he] at HM
  have HI := Lib.hid (frIn_any (w := w) off bs.length hon)
  have hth := h.there hk
  have hrun := run_copy_cells (P := Try.prog) w 50 50 3 5 lb (k * 65 + off) (64 - off) (64 - off) a bs.length c (bs.map fun x => Value.int .u8 x) Try.underlying50 sizeB
    (by rw [List.length_map]; show bs.length = min bs.length (64 - off); omega) hsrc
    (fun j hj => by rw [List.length_map] at hj; have := (hth (off + j) (by omega)).1; rwa [← Nat.add_assoc] at this)
    (fun j hj => by rw [List.length_map] at hj; have := (hth (off + j) (by omega)).2; rwa [← Nat.add_assoc] at this)
    (fun u hu => by
      rw [List.mem_map] at hu
      obtain ⟨x, _, rfl⟩ := hu
      rfl)
  have HF := Lib.hid (show FrAt (w.setCells lb (k * 65 + off) (bs.map fun x => Value.int .u8 x)) fb lb cap (writeF F k off bs) from FrAt.putB bs off w F hk h hon hlow)
  have HB := Lib.hid (but_cells (S := fun k => k = lb) rfl (bs.map fun x => Value.int .u8 x) (k * 65 + off) w w (But.refl _ w))
  have c0 := h.slice
  have hlt := h.p.lt
  have hlt2 := h.lt.2
  have hpos := h.ok.pos
  have hki : (k : Int) < (F.n : Int) := by omega
  have g1 : (off : Int) ≤ 64 := by omega
  have g3 : (off : Int) < 64 := by omega
  have g4 : ¬ 64 - off = 0 := by omega
  have g5 : ¬ off = 64 := by omega
  have g6 : ¬ 64 ≤ off := by omega
  have g7 : (bs.length : Int) ≤ 64 := by omega
  clear h he hth hsrc hlow
  generalize (bs.map fun x => Value.int .u8 x) = cs at *
  go_enter Try.func39, Try.ntmps39
  go_wp2_with (fail)
  refine HM.out.mono ?_
  rintro e _ ⟨rfl, rfl⟩
  go_wp2_with (fail)
  refine HI.out.mono ?_
  rintro e _ ⟨rfl, rfl⟩
  go_wp2
  go_ret
  exact ⟨rfl, HF.out, HB.out⟩
end
end Go.Proofs.Ytlecfdchmcghlaa
