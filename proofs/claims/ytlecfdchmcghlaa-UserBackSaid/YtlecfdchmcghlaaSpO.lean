/-
  Calls and bytes that come in; bytes as strings. Condition: none.
-/
import Derived.Deep.Slices
import Derived.Deep.Fields
import Derived.Laws.BytesArg
import Derived.Laws.IdiomStrings
import Derived.Test.YtlecfdchmcghlaaClose
import Derived.Test.YtlecfdchmcghlaaSpN2
import Derived.Test.YtlecfdchmcghlaaSpQB
namespace Go.Proofs.Ytlecfdchmcghlaa
open Go.ChangeShapes Go.WideShapes Go.ChangeAt Go.RowKit Go.Deep
set_option linter.unusedVariables false
set_option linter.unusedSimpArgs false

/-- Bytes lie there. -/
structure BytesA (w : World) (A : Option Addr) (c : Nat) (bs : List Int) : Prop where
  low : ∀ x ∈ bs, 0 ≤ x ∧ x ≤ 255
  cap : bs.length ≤ c
  src : 0 < bs.length → ∃ g o : Nat, A = some ⟨g, o, none⟩ ∧ g < w.heap.size ∧ ∀ (j : Nat) (v : Value), (bs.map fun x => Value.int .u8 x)[j]? = some v → w.cell? ⟨g, o + j, none⟩ = some v
theorem BytesA.below {w w' : World} {A : Option Addr} {c : Nat} {bs : List Int} (h : BytesA w A c bs) (hb : Below w.heap.size w w') : BytesA w' A c bs :=
  ⟨h.low, h.cap, fun hp => by
    obtain ⟨g, o, e, hg, hc⟩ := h.src hp
    exact ⟨g, o, e, Nat.lt_of_lt_of_le hg hb.size, fun j v hv => (hb.cell hg).trans (hc j v hv)⟩⟩
theorem cellsOf_int : Try.prog.cellsOf 3 = 1 := by kernel_rfl
theorem cellsOf_u32 : Try.prog.cellsOf 26 = 1 := by kernel_rfl
theorem cellsOf_u8 : Try.prog.cellsOf 5 = 1 := by kernel_rfl
theorem cellsOf_bool : Try.prog.cellsOf 4 = 1 := by kernel_rfl
theorem cellsOf_sl : Try.prog.cellsOf 50 = 1 := by kernel_rfl
section
variable {H : Type} {enc : TypeId × Value → H} {w : World}
theorem trod_byte {base : Nat} {spare : Nat → Bool} {held : Bool} {fuel : Nat} {v : Value} {y : DataW H × List MemPlace} (h : DataW.trod enc Try.prog w base spare held fuel 5 [v] = some y) : ∃ x : Int, v = .int .u8 x ∧ 0 ≤ x ∧ x ≤ 255 := by
  obtain ⟨a, e, _, wf⟩ := DataW.trod_int Try.underlying5 h
  injection e with e _
  exact ⟨a, e, by simpa [Lit.wf, IntKind.min, IntKind.max, IntKind.signed, IntKind.bits] using wf⟩
/-- Bytes that came in. -/
theorem trod_bytes {fuel : Nat} {cs : List Value} {y : DataW H × List MemPlace} (h : DataW.trod enc Try.prog w 0 (fun _ => true) true fuel 50 cs = some y) :
    ∃ (A : Option Addr) (c : Nat) (bs : List Int), cs = [.slice A bs.length c] ∧ BytesA w A c bs ∧ bs.length ≤ maxLen := by
  rcases open_slice1 Try.underlying50 cellsOf_u8 h with ⟨rfl, _⟩ | ⟨a, len, cap, m, n, V, D, Pl, rfl, _, hl, hm, hmm, _, hV⟩
  · exact ⟨none, 0, [], rfl, ⟨(fun x hx => by cases hx), Nat.le_refl _, fun h => absurd h (by decide)⟩, Nat.zero_le _⟩
  · have hmc : m = cap := by simpa using hmm
    obtain ⟨f, hf⟩ := choose_lt (α := Int) (n := len) (p := fun i x => w.cell? (a.add i) = some (.int .u8 x) ∧ 0 ≤ x ∧ x ≤ 255) (fun i hi => by
      obtain ⟨h1, h2⟩ := hV i (by omega)
      obtain ⟨x, hx, hr⟩ := trod_byte h2
      exact ⟨x, by rw [h1, hx], hr⟩)
    refine ⟨some a, cap, (List.range len).map f, by simp, ⟨fun x hx => ?_, by simp; omega, fun hp => ?_⟩, by simp; omega⟩
    · obtain ⟨i, hi, rfl⟩ := List.mem_map.1 hx
      exact (hf i (List.mem_range.1 hi)).2
    · have hp : 0 < len := by simpa using hp
      have h0 := (hf 0 hp).1
      have e0 : a.add 0 = a := by simp [Addr.add]
      rw [e0] at h0
      have hsp := spot_of_cell h0
      obtain ⟨g, o, sp⟩ := a
      simp only at hsp
      subst hsp
      refine ⟨g, o, rfl, block_lt_of_cell h0, fun j v hv => ?_⟩
      rw [List.map_map, List.getElem?_map] at hv
      have hj : j < len := by
        rcases Nat.lt_or_ge j len with h | h
        · exact h
        · rw [List.getElem?_eq_none (by simpa using h)] at hv; cases hv
      rw [List.getElem?_range hj] at hv
      have hv : Value.int .u8 (f j) = v := by simpa using hv
      rw [← hv, ← add_eq]
      exact (hf j hj).1
theorem open_bytes {v : Value} {d : DataW H} {p : List MemPlace} (h : DataW.Trod enc Try.prog w 0 (fun _ => true) true 50 v d p) (hv : ∃ a len cap, v = .slice a len cap) :
    ∃ (A : Option Addr) (c : Nat) (bs : List Int), v = .slice A bs.length c ∧ BytesA w A c bs ∧ bs.length ≤ maxLen := by
  obtain ⟨a, len, cap, rfl⟩ := hv
  obtain ⟨fuel, hf⟩ := h
  obtain ⟨A, c, bs, e, h1, h2⟩ := trod_bytes hf
  simp only [Value.cells, List.cons.injEq, and_true] at e
  exact ⟨A, c, bs, e, h1, h2⟩
end
/-- A row of bytes as a string. -/
theorem conv_row {w : World} {base : Nat} {v : Value} {bs : List Int} (h : w.ownsRow base 5 1 v bs.length (bs.map fun x => Value.int .u8 x)) : (convert 50 9 v).run Try.prog w = .ok (.string (strOfNums bs)) w := by
  cases hb : bs with
  | nil =>
    subst hb
    rcases h.2 with ⟨rfl, _⟩ | ⟨g, cap, cur, rfl, _, _, _, _, _, _⟩
    · show (convert 50 9 (.slice none 0 0)).run Try.prog w = .ok (.string ByteArray.empty) w
      rw [run_convert_bytes_string w _ _ 5 _ 0 0 Try.underlying50 Try.underlying5 Try.underlying9]
      simp [Conv.bytesToString]
    · show (convert 50 9 (.slice (some ⟨g, 0, none⟩) 0 cap)).run Try.prog w = .ok (.string ByteArray.empty) w
      rw [run_convert_bytes_string w _ _ 5 _ 0 cap Try.underlying50 Try.underlying5 Try.underlying9]
      rw [run_bytesToString w ⟨g, 0, none⟩ 0 cap [] (by rfl)]; rfl
  | cons x l =>
    obtain ⟨g, cap, cur, rfl, _, hg, hcur⟩ := row_open h (by rw [hb]; exact Nat.succ_pos _)
    rw [← hb]
    refine run_convert_bytes_arg w _ 5 Try.underlying50 Try.underlying5 g 0 _ cap bs rfl (fun i hi => ?_) _ Try.underlying9
    rw [Nat.zero_add, hg.cell]
    refine hcur i _ ?_
    rw [List.getElem?_map, List.getD_eq_getElem?_getD, List.getElem?_eq_getElem hi]; rfl
theorem str_inj {l l' : List Int} (h : ∀ x ∈ l, 0 ≤ x ∧ x ≤ 255) (h' : ∀ x ∈ l', 0 ≤ x ∧ x ≤ 255) (e : strOfNums l = strOfNums l') : l = l' := by
  have hd : (l.map fun n => UInt8.ofNat n.toNat) = l'.map fun n => UInt8.ofNat n.toNat := by
    rw [← strOfNums_data, ← strOfNums_data, e]
  clear e
  induction l generalizing l' with
  | nil =>
    cases l' with
    | nil => rfl
    | cons y l' => cases hd
  | cons x l ih =>
    cases l' with
    | nil => cases hd
    | cons y l' =>
      simp only [List.map_cons, List.cons.injEq] at hd
      have h1 := h x (List.mem_cons_self ..)
      have h2 := h' y (List.mem_cons_self ..)
      have h3 := congrArg UInt8.toNat hd.1
      rw [UInt8.toNat_ofNat', UInt8.toNat_ofNat'] at h3
      rw [ih (fun z hz => h z (List.mem_cons_of_mem _ hz)) (fun z hz => h' z (List.mem_cons_of_mem _ hz)) hd.2]
      rw [show x = y by omega]
end Go.Proofs.Ytlecfdchmcghlaa
