/-
  Traces that come in: what they read as, and the kinds that their numbers keep. No condition.
-/
import Derived.Test.YtpcaeggecojaeaaDoorTrGrd
namespace Go.Proofs.YtpcaeggecojaeaaDoor
open Go.ChangeShapes Go.WideShapes Go.ChangeAt Go.RowKit Go.Deep
set_option linter.unusedVariables false
set_option linter.unusedSimpArgs false

def In64 (n : Int) : Prop := -9223372036854775808 ≤ n ∧ n ≤ 9223372036854775807
structure OkS (x : S) : Prop where
  p : In64 x.p
  k : In64 x.k
  c : In64 x.c
  v0 : 0 ≤ x.v
  v1 : x.v ≤ 4294967295
theorem cellsOf_int : Tryd.prog.cellsOf 3 = 1 := by kernel_rfl
theorem cellsOf_u32 : Tryd.prog.cellsOf 25 = 1 := by kernel_rfl
theorem cellsOf_seen : Tryd.prog.cellsOf 27 = 4 := by kernel_rfl
section
variable {H : Type} {enc : TypeId × Value → H} {w : World} {base : Nat} {spare : Nat → Bool} {held : Bool}
set_option maxRecDepth 100000 in
theorem trod_seen {fuel : Nat} {cs : List Value} {y : DataW H × List MemPlace} (h : DataW.trod enc Tryd.prog w base spare held fuel 27 cs = some y) : ∃ x : {x : S // OkS x}, cs = x.1.cells := by
  obtain ⟨xs, n, rfl, hx, hlen, hxl, hf⟩ := DataW.trod_struct Tryd.underlying27 h
  rw [cellsOf_seen] at hlen
  match cs, hlen with
  | [c0, c1, c2, c3], _ =>
    match xs, hxl with
    | [y0, y1, y2, y3], _ =>
      have h0 := hf 0 _ rfl
      have h1 := hf 1 _ rfl
      have h2 := hf 2 _ rfl
      have h3 := hf 3 _ rfl
      simp only [cellsOf_int, cellsOf_u32, List.drop_zero, List.drop_succ_cons, List.take_succ_cons, List.take_zero, List.getElem?_cons_zero, List.getElem?_cons_succ] at h0 h1 h2 h3
      obtain ⟨a0, e0, _, w0⟩ := DataW.trod_int Tryd.underlying3 h0
      obtain ⟨a1, e1, _, w1⟩ := DataW.trod_int Tryd.underlying3 h1
      obtain ⟨a2, e2, _, w2⟩ := DataW.trod_int Tryd.underlying3 h2
      obtain ⟨a3, e3, _, w3⟩ := DataW.trod_int Tryd.underlying25 h3
      injection e0 with e0 _; injection e1 with e1 _; injection e2 with e2 _; injection e3 with e3 _
      have r0 : -9223372036854775808 ≤ a0 ∧ a0 ≤ 9223372036854775807 := by simpa [Lit.wf, IntKind.min, IntKind.max, IntKind.signed, IntKind.bits] using w0
      have r1 : -9223372036854775808 ≤ a1 ∧ a1 ≤ 9223372036854775807 := by simpa [Lit.wf, IntKind.min, IntKind.max, IntKind.signed, IntKind.bits] using w1
      have r2 : -9223372036854775808 ≤ a2 ∧ a2 ≤ 9223372036854775807 := by simpa [Lit.wf, IntKind.min, IntKind.max, IntKind.signed, IntKind.bits] using w2
      have r3 : 0 ≤ a3 ∧ a3 ≤ 4294967295 := by simpa [Lit.wf, IntKind.min, IntKind.max, IntKind.signed, IntKind.bits] using w3
      exact ⟨⟨⟨a0, a1, a2, a3⟩, ⟨r0, r1, r2, r3.1, r3.2⟩⟩, by rw [e0, e1, e2, e3]; rfl⟩
set_option maxRecDepth 100000 in
theorem trod_i {fuel : Nat} {cs : List Value} {y : DataW H × List MemPlace} (h : DataW.trod enc Tryd.prog w base spare held fuel 3 cs = some y) : ∃ x : Int, cs = iCells x := by
  obtain ⟨a, e, _, _⟩ := DataW.trod_int Tryd.underlying3 h
  exact ⟨a, e⟩
set_option maxRecDepth 100000 in
theorem open_seen {v : Value} {d : DataW H} {p : List MemPlace} {r : Reach} {b0 : Nat} (hv : Value.okWide Tryd.prog w r b0 22 v) (h : DataW.Trod enc Tryd.prog w 0 (fun _ => true) true 22 v d p) :
    ∃ (A : Option Addr) (c : Nat) (l : List S), v = .slice A l.length c ∧ SeenAt w A l ∧ l.length ≤ maxLen ∧ ∀ x ∈ l, OkS x := by
  obtain ⟨A, c, l, rfl, hO, hl⟩ := open_rows (fun x : {x : S // OkS x} => x.1.cells) (by decide) (fun _ => rfl) Tryd.underlying22 cellsOf_seen trod_seen hv h
  refine ⟨A, c, l.map Subtype.val, by rw [List.length_map], ?_, by rw [List.length_map]; exact hl, fun x hx => ?_⟩
  · unfold SeenAt
    rw [List.map_map]
    exact hO
  · obtain ⟨y, _, rfl⟩ := List.mem_map.1 hx
    exact y.2
set_option maxRecDepth 100000 in
theorem open_pids {v : Value} {d : DataW H} {p : List MemPlace} {r : Reach} {b0 : Nat} (hv : Value.okWide Tryd.prog w r b0 29 v) (h : DataW.Trod enc Tryd.prog w 0 (fun _ => true) true 29 v d p) :
    ∃ (A : Option Addr) (c : Nat) (l : List Int), v = .slice A l.length c ∧ IntsAt w A l ∧ l.length ≤ maxLen :=
  open_rows iCells (by decide) (fun _ => rfl) Tryd.underlying29 cellsOf_int trod_i hv h
end
end Go.Proofs.YtpcaeggecojaeaaDoor
