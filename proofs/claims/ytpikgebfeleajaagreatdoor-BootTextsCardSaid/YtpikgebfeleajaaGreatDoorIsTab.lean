/-
  The table of package isa, and walks over its smallest functions. Condition: the table lies as the program's text lays it.
-/
import Derived.Deep.RegionHeld3
import Derived.Test.YtpikgebfeleajaaGreatDoorTab
namespace Go.Proofs.YtpikgebfeleajaaGreatDoor.I
open Go.RowKit
set_option linter.unusedVariables false
set_option linter.unusedSimpArgs false

def formsL : List (List UInt8 × Int × Int × Bool) := [([110, 111, 112], -1, -1, false), ([108, 105], 7, -1, true), ([108, 117, 105], 7, -1, true), ([109, 111, 118], 7, 7, false), ([97, 100, 100], 7, 7, false), ([115, 117, 98], 7, 7, false), ([109, 117, 108], 7, 7, false), ([97, 110, 100], 7, 7, false), ([111, 114], 7, 7, false), ([120, 111, 114], 7, 7, false), ([115, 104, 108], 7, 7, false), ([115, 104, 114], 7, 7, false), ([97, 100, 100, 105], 7, -1, true), ([115, 108, 116], 7, 7, false), ([115, 101, 113], 7, 7, false), ([108, 119], 7, 7, true), ([115, 119], 7, 7, true), ([108, 98], 7, 7, true), ([115, 98], 7, 7, true), ([106, 109, 112], -1, -1, true), ([106, 122], 7, -1, true), ([106, 110, 122], 7, -1, true), ([106, 97, 108], 7, -1, true), ([106, 114], 7, -1, false), ([115, 121, 115], -1, -1, false), ([122, 115, 101, 116], 1, 6, false), ([122, 103, 101, 116], 1, 6, false), ([122, 97, 100, 100], 1, 1, false), ([122, 109, 117, 108], 1, 1, false), ([122, 99, 111, 110, 106], 1, -1, false)]
def cellsF (r : List UInt8 × Int × Int × Bool) : List Value := [.string ⟨r.1.toArray⟩, .int .i64 r.2.1, .int .i64 r.2.2.1, .bool r.2.2.2]
def fArr : Array Value := (formsL.flatMap cellsF).toArray
def rowF (k : Nat) : List UInt8 × Int × Int × Bool := formsL.getD k ([], 0, 0, false)
/-- The word of row k, how far its A and its B go, whether it names Imm. -/
def fN (k : Nat) : ByteArray := ⟨(rowF k).1.toArray⟩
def fA (k : Nat) : Int := (rowF k).2.1
def fB (k : Nat) : Int := (rowF k).2.2.1
def fI (k : Nat) : Bool := (rowF k).2.2.2
structure Laid (w : World) : Prop where
  forms : ∃ t, Blk w 4 t fArr
theorem Laid.klt {w : World} (h : Laid w) : 4 < w.heap.size := h.forms.elim fun _ x => x.lt
theorem Laid.belowB {B : Nat} {w w' : World} (h : Laid w) (hb : Below B w w') (hk : 4 < B) : Laid w' := by
  obtain ⟨t, h1⟩ := h
  exact ⟨t, h1.below hb hk⟩
theorem Laid.below {w w' : World} (h : Laid w) (hb : Below w.heap.size w w') : Laid w' := h.belowB hb h.klt
theorem fArr_at {k : Nat} (hk : k < 30) : fArr[k * 4]? = some (.string (fN k)) ∧ fArr[k * 4 + 1]? = some (.int .i64 (fA k)) ∧ fArr[k * 4 + 2]? = some (.int .i64 (fB k)) ∧ fArr[k * 4 + 3]? = some (.bool (fI k)) := by
  have h : formsL[k]? = some (rowF k) := by
    have hl : k < formsL.length := hk
    unfold rowF
    rw [List.getD_eq_getElem?_getD, List.getElem?_eq_getElem hl]; rfl
  have h0 := tab_flat cellsF 4 (fun _ => rfl) formsL k 0 _ (by omega) h
  have h1 := tab_flat cellsF 4 (fun _ => rfl) formsL k 1 _ (by omega) h
  have h2 := tab_flat cellsF 4 (fun _ => rfl) formsL k 2 _ (by omega) h
  have h3 := tab_flat cellsF 4 (fun _ => rfl) formsL k 3 _ (by omega) h
  unfold fArr
  rw [List.getElem?_toArray, List.getElem?_toArray, List.getElem?_toArray, List.getElem?_toArray]
  exact ⟨h0, h1, h2, h3⟩
theorem Laid.kcell {w : World} (h : Laid w) {k : Nat} (hk : k < 30) : w.cell? ⟨4, k * 4, none⟩ = some (.string (fN k)) ∧ w.cell? ⟨4, k * 4 + 1, none⟩ = some (.int .i64 (fA k)) ∧ w.cell? ⟨4, k * 4 + 2, none⟩ = some (.int .i64 (fB k)) ∧ w.cell? ⟨4, k * 4 + 3, none⟩ = some (.bool (fI k)) ∧ 4 < w.heap.size :=
  h.forms.elim fun _ x => ⟨(x.cell _).trans (fArr_at hk).1, (x.cell _).trans (fArr_at hk).2.1, (x.cell _).trans (fArr_at hk).2.2.1, (x.cell _).trans (fArr_at hk).2.2.2, x.lt⟩

/-- An instruction's row, whatever number is asked for; 30: it has none. -/
def fR (n : Int) : Nat := if 0 ≤ n ∧ n < 30 then n.toNat else 30
def isR (n : Int) : Bool := decide (0 ≤ n ∧ n < 30)
theorem fR_le (n : Int) : fR n ≤ 30 := by unfold fR; split <;> omega
theorem fR_in {k : Nat} (h : k < 30) : fR (k : Int) = k := by unfold fR; rw [if_pos (by omega)]; omega
theorem fR_out {n : Int} (h : ¬ (0 ≤ n ∧ n < 30)) : fR n = 30 := by unfold fR; rw [if_neg h]
/-- A row as a struct. -/
def aggF (k : Nat) : Value := .agg #[.string (fN k), .int .i64 (fA k), .int .i64 (fB k), .bool (fI k)]

theorem ccells {w : World} {g : Nat} {t : TypeId} {a b c d : Value} (h : Blk w g t #[a, b, c, d]) : w.cell? ⟨g, 0, none⟩ = some a ∧ w.cell? ⟨g, 1, none⟩ = some b ∧ w.cell? ⟨g, 2, none⟩ = some c ∧ w.cell? ⟨g, 3, none⟩ = some d ∧ g < w.heap.size :=
  ⟨(h.cell 0).trans rfl, (h.cell 1).trans rfl, (h.cell 2).trans rfl, (h.cell 3).trans rfl, h.lt⟩
theorem set4_blk {W : World} {b : Nat} {t : TypeId} {v0 v1 v2 v3 : Value} (h : Blk W b t #[v0, v1, v2, v3]) (u0 u1 u2 u3 : Value) : Blk ((((W.setCell ⟨b, 0, none⟩ u0).setCell ⟨b, 1, none⟩ u1).setCell ⟨b, 2, none⟩ u2).setCell ⟨b, 3, none⟩ u3) b t #[u0, u1, u2, u3] := by
  have := (((h.set_ 0 u0).set_ 1 u1).set_ 2 u2).set_ 3 u3
  simpa using this
theorem set4_below {B b : Nat} {w W : World} (h : Below B w W) (hb : B ≤ b) (u0 u1 u2 u3 : Value) : Below B w ((((W.setCell ⟨b, 0, none⟩ u0).setCell ⟨b, 1, none⟩ u1).setCell ⟨b, 2, none⟩ u2).setCell ⟨b, 3, none⟩ u3) :=
  (((h.setCell (p := ⟨b, 0, none⟩) hb _).setCell (p := ⟨b, 1, none⟩) hb _).setCell (p := ⟨b, 2, none⟩) hb _).setCell (p := ⟨b, 3, none⟩) hb _
theorem bl_step {v W W1 : World} (h : Below v.heap.size v W) (h1 : Below W.heap.size W W1) : Below v.heap.size v W1 := h.trans (h1.mono h.size)
theorem bl_new {v W : World} (h : Below v.heap.size v W) (o : Obj) : Below v.heap.size v (W.alloc o) := h.alloc h.size o
set_option maxHeartbeats 1000000 in
set_option maxRecDepth 100000 in
theorem of_any {w : World} (hL : Laid w) (n : Int) : Calls Tryz.prog 73 #[.int .i64 n] w fun e w' => e = .returned (.tuple #[aggF (fR n), .bool (isR n)]) ∧ Below w.heap.size w w' := by
  by_cases h : 0 ≤ n ∧ n < 30
  · obtain ⟨k, rfl⟩ := Int.eq_ofNat_of_zero_le h.1
    have h2 : k < 30 := by omega
    have hi : isR (k : Int) = true := decide_eq_true h
    rw [fR_in h2, hi]
    obtain ⟨c0, c1, c2, c3, hlt⟩ := hL.kcell h2
    have hn1 : ¬ (k : Int) < 0 := by omega
    have hn2 : (k : Int) < 30 := by omega
    clear h hL hi
    unfold aggF
    generalize fN k = s at *
    generalize fA k = a at *
    generalize fB k = b at *
    generalize fI k = i at *
    go_enter Tryz.func73, Tryz.ntmps73
    go_wp2
    exact bodyPost_ret (results_row_tmp Tryz.results73 _ rfl (Blk.new w _ _) Tryz.underlying133 rfl (by kernel_rfl)) rfl ⟨rfl, (Below.refl _ _).alloc (Nat.le_refl _) _⟩
  · have hi : isR n = false := decide_eq_false h
    rw [fR_out h, hi]
    show Calls Tryz.prog 73 #[.int .i64 n] w fun e w' => e = .returned (.tuple #[.agg #[.string ⟨#[]⟩, .int .i64 0, .int .i64 0, .bool false], .bool false]) ∧ Below w.heap.size w w'
    by_cases hn : n < 0
    · clear h hi
      go_enter Tryz.func73, Tryz.ntmps73
      go_wp2
      exact bodyPost_ret (results_row_tmp Tryz.results73 _ rfl (Blk.new w _ _) Tryz.underlying133 rfl (by kernel_rfl)) rfl ⟨rfl, (Below.refl _ _).alloc (Nat.le_refl _) _⟩
    · have hn2 : ¬ n < 30 := by omega
      have hn3 : 30 ≤ n := by omega
      clear h hi
      go_enter Tryz.func73, Tryz.ntmps73
      go_wp2
      exact bodyPost_ret (results_row_tmp Tryz.results73 _ rfl (Blk.new w _ _) Tryz.underlying133 rfl (by kernel_rfl)) rfl ⟨rfl, (Below.refl _ _).alloc (Nat.le_refl _) _⟩


theorem form_name (k : Nat) (w : World) : (Instr.field 133 (aggF k) 0).run Tryz.prog w = .ok (.string (fN k)) w := by
  unfold aggF
  generalize fN k = s
  generalize fA k = a
  generalize fB k = b
  generalize fI k = i
  kernel_rfl
end Go.Proofs.YtpikgebfeleajaaGreatDoor.I
