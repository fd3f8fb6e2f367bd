/-
  Read of frames, of bytes that lie in one. Condition: the frames lie in blocks of their own.
-/
import Derived.Test.YtlecfdchmcghlaaFr8
namespace Go.Proofs.Ytlecfdchmcghlaa
open Go.RowKit Go.Lib Go.Shelf
set_option linter.unusedVariables false
set_option linter.unusedSimpArgs false

section
variable {w : World} {fb lb cap : Nat} {F : Fs}
set_option maxRecDepth 100000 in
theorem frIn_any (off n : Nat) (h : off + n ≤ 64) : Calls Try.prog 61 #[.int .i64 (off : Int), .int .i64 (n : Int)] w fun e w' => e = .returned (.bool true) ∧ w = w' := by
  have h1 : (0 : Int) ≤ (off : Int) := by omega
  have h2 : (0 : Int) ≤ (n : Int) := by omega
  have h3 : (off : Int) ≤ 64 := by omega
  have h4 : (n : Int) ≤ 64 - (off : Int) := by omega
  go_enter Try.func61, Try.ntmps61
  go_wp2
  go_ret
  exact ⟨rfl, rfl⟩
/-- Bytes of frame k. -/
def partB (F : Fs) (k off n : Nat) : List Int := ((F.b k).drop off).take n
theorem partB_len {F : Fs} (h : F.Ok) (k off n : Nat) (hn : off + n ≤ 64) : (partB F k off n).length = n := by
  unfold partB
  rw [List.length_take, List.length_drop, h.len]
  omega
theorem partB_cell (h : FrAt w fb lb cap F) {k : Nat} (hk : k < F.n) (off n : Nat) (hn : off + n ≤ 64) : ∀ (j : Nat) (u : Value), ((partB F k off n).map fun x => Value.int .u8 x)[j]? = some u → w.cell? ⟨lb, k * 65 + off + j, none⟩ = some u := fun j u hu => by
  have hj := (List.getElem?_eq_some_iff.1 hu).1
  rw [List.length_map, partB_len h.ok k off n hn] at hj
  have hl := h.ok.len k
  have h1 := h.byte (k := k) (j := off + j) hk (by omega)
  rw [Nat.add_assoc, h1, ← hu, List.getElem?_map]
  unfold partB
  rw [List.getElem?_take_of_lt hj, List.getElem?_drop, List.getD_eq_getElem?_getD, List.getElem?_eq_getElem (by omega)]; rfl

set_option maxRecDepth 100000 in
set_option maxHeartbeats 4000000 in
theorem frRead_any (h : FrAt w fb lb cap F) {k : Nat} (hk : k < F.n) (hr : F.r k ≠ 0) (off n : Nat) (hof : off < 64) (hon : off + n ≤ 64) :
    Calls Try.prog 53 #[.pointer (some ⟨fb, 0, none⟩), .int .i64 (k : Int), .int .i64 (off : Int), .int .i64 (n : Int)] w fun e w' =>
      ∃ v, e = .returned (.tuple #[v, .int .i64 0]) ∧ w'.ownsRow w.heap.size 5 1 v n ((partB F k off n).map fun x => Value.int .u8 x) ∧ Below w.heap.size w w' := by
  have HM := Lib.hid (frMay_any h k)
  have he : mayE F k = 0 := if_pos ⟨by omega, by omega, by rw [Int.toNat_natCast]; exact hr⟩
  rw [he] at HM
  have HI := Lib.hid (frIn_any (w := w) off n hon)
  have HC := Lib.hid (clone_any lb (k * 65 + off) n (64 - off) _ w (by rw [List.length_map]; exact partB_len h.ok k off n hon) (by omega) (partB_cell h hk off n hon) (fun u hu => by
    rw [List.mem_map] at hu
    obtain ⟨x, _, rfl⟩ := hu
    rfl))
  have c0 := h.slice
  have hlt := h.p.lt
  have hlt2 := h.lt.2
  have hpos := h.ok.pos
  have hki : (k : Int) < (F.n : Int) := by omega
  have g1 : (off : Int) ≤ (off : Int) + (n : Int) := by omega
  have g2 : (off : Int) + (n : Int) ≤ 64 := by omega
  have g3 : (off : Int) < 64 := by omega
  have g4 : ¬ 64 - off = 0 := by omega
  have g5 : ¬ off = 64 := by omega
  have g6 : ¬ 64 ≤ off := by omega
  clear h he
  generalize ((partB F k off n).map fun x => Value.int .u8 x) = bs at *
  go_enter Try.func53, Try.ntmps53
  go_wp2_with (fail)
  refine HM.out.mono ?_
  rintro e _ ⟨rfl, rfl⟩
  go_wp2_with (fail)
  refine HI.out.mono ?_
  rintro e _ ⟨rfl, rfl⟩
  go_wp2_with (fail)
  refine HC.out.mono ?_
  rintro e W1 ⟨v, rfl, hrow, hb⟩
  go_wp2
  go_ret2
  exact ⟨v, rfl, hrow, hb⟩
end
end Go.Proofs.Ytlecfdchmcghlaa
