/-
  The laws' arguments, opened: entries, calls, slices of calls. No condition.
-/
import Derived.Deep.Slices
import Derived.Deep.Fields
import Derived.Test.YtgdimjcpdndklaaClose
import Derived.Test.YtgdimjcpdndklaaLaw1
namespace Go.Proofs.Ytgdimjcpdndklaa
open Go.ChangeShapes Go.WideShapes Go.ChangeAt Go.RowKit Go.Deep
set_option linter.unusedVariables false
set_option linter.unusedSimpArgs false

theorem cellsOf_int : Try.prog.cellsOf 3 = 1 := by kernel_rfl
theorem cellsOf_bool : Try.prog.cellsOf 4 = 1 := by kernel_rfl
theorem cellsOf_entry : Try.prog.cellsOf 29 = 5 := by kernel_rfl
theorem cellsOf_op : Try.prog.cellsOf 54 = 7 := by kernel_rfl

section
variable {H : Type} {enc : TypeId × Value → H} {w : World} {base : Nat} {spare : Nat → Bool} {held : Bool}
theorem trod_entry {fuel : Nat} {cs : List Value} {y : DataW H × List MemPlace} (h : DataW.trod enc Try.prog w base spare held fuel 29 cs = some y) :
    ∃ x : E, cs = [.int .i64 x.f, .bool x.w, .bool x.s, .bool x.c, .bool x.d] := by
  obtain ⟨xs, n, rfl, hx, hlen, hxl, hf⟩ := DataW.trod_struct Try.underlying29 h
  rw [cellsOf_entry] at hlen
  match cs, hlen with
  | [c0, c1, c2, c3, c4], _ =>
    match xs, hxl with
    | [y0, y1, y2, y3, y4], _ =>
      have h0 := hf 0 _ rfl
      have h1 := hf 1 _ rfl
      have h2 := hf 2 _ rfl
      have h3 := hf 3 _ rfl
      have h4 := hf 4 _ rfl
      simp only [cellsOf_int, cellsOf_bool, List.drop_zero, List.drop_succ_cons, List.take_succ_cons, List.take_zero, List.getElem?_cons_zero, List.getElem?_cons_succ] at h0 h1 h2 h3 h4
      obtain ⟨f, e0, _, _⟩ := DataW.trod_int Try.underlying3 h0
      obtain ⟨b1, e1, _⟩ := DataW.trod_bool Try.underlying4 h1
      obtain ⟨b2, e2, _⟩ := DataW.trod_bool Try.underlying4 h2
      obtain ⟨b3, e3, _⟩ := DataW.trod_bool Try.underlying4 h3
      obtain ⟨b4, e4, _⟩ := DataW.trod_bool Try.underlying4 h4
      injection e0 with e0 _; injection e1 with e1 _; injection e2 with e2 _; injection e3 with e3 _; injection e4 with e4 _
      exact ⟨⟨f, b1, b2, b3, b4⟩, by rw [e0, e1, e2, e3, e4]⟩

theorem trod_op {fuel : Nat} {cs : List Value} {y : DataW H × List MemPlace} (h : DataW.trod enc Try.prog w base spare held fuel 54 cs = some y) :
    ∃ o : O, cs = [.int .i64 o.k, .int .i64 o.p, .int .i64 o.x.f, .bool o.x.w, .bool o.x.s, .bool o.x.c, .bool o.x.d] := by
  obtain ⟨xs, n, rfl, hx, hlen, hxl, hf⟩ := DataW.trod_struct Try.underlying54 h
  rw [cellsOf_op] at hlen
  match cs, hlen with
  | [c0, c1, c2, c3, c4, c5, c6], _ =>
    match xs, hxl with
    | [y0, y1, y2], _ =>
      have h0 := hf 0 _ rfl
      have h1 := hf 1 _ rfl
      have h2 : DataW.trod enc Try.prog w base spare held n 29 (([c0, c1, c2, c3, c4, c5, c6].drop 2).take (Try.prog.cellsOf 29)) = [y0, y1, y2][2]? := hf 2 _ rfl
      rw [cellsOf_entry] at h2
      simp only [List.drop_succ_cons, List.take_succ_cons, List.take_zero, List.getElem?_cons_zero, List.getElem?_cons_succ] at h2
      obtain ⟨k, e0, _, _⟩ := DataW.trod_int Try.underlying3 h0
      obtain ⟨p, e1, _, _⟩ := DataW.trod_int Try.underlying3 h1
      obtain ⟨x, e2⟩ := trod_entry h2
      injection e0 with e0 _; injection e1 with e1 _
      injection e2 with g0 e2; injection e2 with g1 e2; injection e2 with g2 e2; injection e2 with g3 e2; injection e2 with g4 e2
      exact ⟨⟨k, p, x⟩, by rw [e0, e1, g0, g1, g2, g3, g4]⟩
end

theorem add_eq (b o n : Nat) : Addr.add ⟨b, o, none⟩ n = ⟨b, o + n, none⟩ := by
  unfold Addr.add; split <;> simp_all
theorem spot_of_cell {w : World} {a : Addr} {v : Value} (h : w.cell? a = some v) : a.spot = none := by
  unfold World.cell? at h
  split at h
  · split at h
    · cases h
    · rename_i hs; cases ha : a.spot <;> simp_all
  · cases h
/-- A slice of calls that came in. -/
theorem open_ops {H : Type} {enc : TypeId × Value → H} {w : World} {v : Value} {d : DataW H} {p : List MemPlace} {r : Reach} {b0 : Nat} (hv : Value.okWide Try.prog w r b0 22 v)
    (h : DataW.Trod enc Try.prog w 0 (fun _ => true) true 22 v d p) : ∃ (A : Option Addr) (c : Nat) (l : List O), v = .slice A l.length c ∧ OpsAt w A l ∧ l.length ≤ maxLen := by
  obtain ⟨a0, len, cap, rfl⟩ := okWide_slice Try.underlying22 hv
  obtain ⟨fuel, hf⟩ := h
  rcases open_slice Try.underlying22 hf with ⟨hcs, hx⟩ | ⟨a, len', cap', m, n, D, Pl, hcs, hb, hl, hm, hmm, hx, hi⟩
  · simp only [Value.cells, List.cons.injEq, Value.slice.injEq, and_true] at hcs
    obtain ⟨rfl, rfl, rfl⟩ := hcs
    exact ⟨none, 0, [], rfl, fun i o ho => by simp at ho, Nat.zero_le _⟩
  · simp only [Value.cells, List.cons.injEq, Value.slice.injEq, and_true] at hcs
    obtain ⟨rfl, rfl, rfl⟩ := hcs
    have hmc : m = cap := by simpa using hmm
    have hel : ∀ i, i < len → ∃ o : O, ∃ cs', w.cells? 0 (a.add (i * 7)) 7 = some cs' ∧ cs' = [.int .i64 o.k, .int .i64 o.p, .int .i64 o.x.f, .bool o.x.w, .bool o.x.s, .bool o.x.c, .bool o.x.d] := fun i hil => by
      obtain ⟨cs', h1, h2⟩ := hi i (by omega)
      rw [cellsOf_op] at h1
      obtain ⟨o, ho⟩ := trod_op h2
      exact ⟨o, cs', h1, ho⟩
    have hex : ∃ f : Nat → O, ∀ i, i < len → ∃ cs', w.cells? 0 (a.add (i * 7)) 7 = some cs' ∧ cs' = [.int .i64 (f i).k, .int .i64 (f i).p, .int .i64 (f i).x.f, .bool (f i).x.w, .bool (f i).x.s, .bool (f i).x.c, .bool (f i).x.d] := by
      refine ⟨fun i => if h : i < len then Classical.choose (hel i h) else ⟨0, 0, E.zero⟩, fun i hil => ?_⟩
      simp only [dif_pos hil]
      exact Classical.choose_spec (hel i hil)
    obtain ⟨f, hf'⟩ := hex
    refine ⟨some a, cap, (List.range len).map f, by simp, fun i o ho => ?_, by simp; omega⟩
    have hil : i < len := by
      have := (List.getElem?_eq_some_iff.1 ho).1
      simpa using this
    have hoi : o = f i := by
      rw [List.getElem?_map, List.getElem?_range hil] at ho
      simpa using ho.symm
    subst hoi
    obtain ⟨cs', h1, rfl⟩ := hf' i hil
    obtain ⟨_, _, hat⟩ := World.cells?_some h1
    have h0 := hat 0 (by omega)
    have hsp : a.spot = none := by
      obtain ⟨cs0, h1', rfl⟩ := hf' 0 (by omega)
      obtain ⟨_, _, hat'⟩ := World.cells?_some h1'
      have h0' := hat' 0 (by omega)
      have e : (a.add (0 * 7)).add 0 = a := by simp [Addr.add]
      rw [e] at h0'
      exact spot_of_cell (v := .int .i64 (f 0).k) (by simpa using h0')
    obtain ⟨b, off, sp⟩ := a
    simp only at hsp
    subst hsp
    have g := fun j (hj : j < 7) => hat j hj
    simp only [add_eq] at g
    have g0 := g 0 (by omega)
    have hlt : b < w.heap.size := by
      have := block_lt_of_cell (w := w) (a := ⟨b, off + i * 7 + 0, none⟩) (v := .int .i64 (f i).k) (by simpa using g0)
      exact this
    exact ⟨b, off, rfl, hlt, by simpa using g0, by simpa using g 1 (by omega), by simpa using g 2 (by omega), by simpa using g 3 (by omega), by simpa using g 4 (by omega), by simpa using g 5 (by omega), by simpa using g 6 (by omega)⟩
end Go.Proofs.Ytgdimjcpdndklaa
