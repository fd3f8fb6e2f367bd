/-
  Starts and bytes that come in: what they read as. No condition.
-/
import Derived.Lib.SmallJoins
import Derived.Test.YtoglmemmdolbmaaDoorCard
import Derived.Test.YtoglmemmdolbmaaDoorCoF
import Derived.Test.YtoglmemmdolbmaaDoorCoG
namespace Go.Proofs.YtoglmemmdolbmaaDoor
open Go.ChangeShapes Go.WideShapes Go.ChangeAt Go.RowKit Go.ChangeMaps Go.Deep
set_option linter.unusedVariables false
set_option linter.unusedSimpArgs false

theorem slice_cap {H : Type} {enc : TypeId × Value → H} {w : World} {A : Option Addr} {n c : Nat} {d : DataW H} {p : List MemPlace} {t e : TypeId} (ht : Tryd.prog.underlying t = some (.slice e)) (h : DataW.Trod enc Tryd.prog w 0 (fun _ => true) true t (.slice A n c) d p) : n ≤ c ∧ c ≤ maxLen := by
  obtain ⟨fuel, hf⟩ := h
  rcases open_slice ht hf with ⟨hcs, _⟩ | ⟨a, len, cap, m, n', D, Pl, hcs, hb, hl, hm, _⟩
  · simp only [Value.cells, List.cons.injEq, Value.slice.injEq, and_true] at hcs
    obtain ⟨_, rfl, rfl⟩ := hcs
    exact ⟨Nat.le_refl _, Nat.zero_le _⟩
  · simp only [Value.cells, List.cons.injEq, Value.slice.injEq, and_true] at hcs
    obtain ⟨_, rfl, rfl⟩ := hcs
    exact ⟨hl, hm⟩
theorem cells7_u8 : Tryd.prog.cellsOf 5 = 1 := by kernel_rfl
theorem cells7_u32 : Tryd.prog.cellsOf 22 = 1 := by kernel_rfl
theorem cells7_i32 : Tryd.prog.cellsOf 21 = 1 := by kernel_rfl
theorem cells7_arr : Tryd.prog.cellsOf 24 = 8 := by kernel_rfl
theorem cells7_start : Tryd.prog.cellsOf 42 = 13 := by kernel_rfl
section
variable {H : Type} {enc : TypeId × Value → H} {w : World} {base : Nat} {spare : Nat → Bool} {held : Bool}
/-- A byte, as it comes in. -/
def ByC (n : {n : Int // 0 ≤ n ∧ n ≤ 255}) : List Value := [.int .u8 n.1]
set_option maxRecDepth 100000 in
theorem trod7_b {fuel : Nat} {cs : List Value} {y : DataW H × List MemPlace} (h : DataW.trod enc Tryd.prog w base spare held fuel 5 cs = some y) : ∃ x : {n : Int // 0 ≤ n ∧ n ≤ 255}, cs = ByC x := by
  obtain ⟨a, e, _, wf⟩ := DataW.trod_int Tryd.underlying5 h
  exact ⟨⟨a, by simpa [Lit.wf, IntKind.min, IntKind.max, IntKind.signed, IntKind.bits] using wf⟩, e⟩
set_option maxRecDepth 100000 in
theorem open_bytes7 {v : Value} {d : DataW H} {p : List MemPlace} {r : Reach} {b0 : Nat} (hv : Value.okWide Tryd.prog w r b0 43 v) (h : DataW.Trod enc Tryd.prog w 0 (fun _ => true) true 43 v d p) :
    ∃ (A : Option Addr) (c : Nat) (m : List Int), v = .slice A m.length c ∧ B.BytesAt w A m ∧ (∀ x ∈ m, 0 ≤ x ∧ x ≤ 255) ∧ m.length ≤ maxLen ∧ m.length ≤ c := by
  obtain ⟨A, c, l, rfl, hl, hm⟩ := open_rows ByC (by decide) (fun _ => rfl) Tryd.underlying43 cells7_u8 trod7_b hv h
  have hc := slice_cap Tryd.underlying43 h
  refine ⟨A, c, l.map (·.1), by rw [List.length_map], ?_, fun x hx => ?_, by rw [List.length_map]; exact hm, by rw [List.length_map]; exact hc.1⟩
  · unfold B.BytesAt
    rw [List.map_map]
    exact hl
  · obtain ⟨y, _, rfl⟩ := List.mem_map.1 hx
    exact y.2
set_option maxRecDepth 100000 in
theorem open_start {r : Reach} {b0 : Nat} {v : Value} {d : DataW H} {p : List MemPlace} (hv : Value.okWide Tryd.prog w r b0 42 v)
    (h : DataW.Trod enc Tryd.prog w base spare held 42 v d p) : ∃ (r : Nat → Int) (a b c d pc : Int), v = .agg (startArr r a b c d pc) ∧ (∀ k, 0 ≤ r k ∧ r k ≤ 4294967295) ∧ (-2147483648 ≤ a ∧ a ≤ 2147483647) ∧ (-2147483648 ≤ b ∧ b ≤ 2147483647) ∧ (-2147483648 ≤ c ∧ c ≤ 2147483647) ∧ (-2147483648 ≤ d ∧ d ≤ 2147483647) ∧ (0 ≤ pc ∧ pc ≤ 4294967295) := by
  obtain ⟨cs, rfl, hsz⟩ := okWide_struct Tryd.underlying42 hv
  rw [cells7_start] at hsz
  obtain ⟨fuel, hf⟩ := h
  obtain ⟨l⟩ := cs
  match l, hsz with
  | [c0, c1, c2, c3, c4, c5, c6, c7, c8, c9, c10, c11, c12], _ =>
    obtain ⟨xs, n, _, _, _, hxl, hf⟩ := DataW.trod_struct Tryd.underlying42 hf
    match xs, hxl with
    | [y0, y1, y2, y3, y4, y5], _ =>
      have h0 := hf 0 _ rfl
      have h1 := hf 1 _ rfl
      have h2 := hf 2 _ rfl
      have h3 := hf 3 _ rfl
      have h4 := hf 4 _ rfl
      have h5 := hf 5 _ rfl
      simp only [Value.cells, cells7_u32, cells7_i32, cells7_arr, List.drop_zero, List.drop_succ_cons, List.take_succ_cons, List.take_zero, List.getElem?_cons_zero, List.getElem?_cons_succ] at h0 h1 h2 h3 h4 h5
      obtain ⟨a, e1, _, wa⟩ := DataW.trod_int Tryd.underlying21 h1
      obtain ⟨b, e2, _, wb⟩ := DataW.trod_int Tryd.underlying21 h2
      obtain ⟨c, e3, _, wc⟩ := DataW.trod_int Tryd.underlying21 h3
      obtain ⟨d, e4, _, wd⟩ := DataW.trod_int Tryd.underlying21 h4
      obtain ⟨pc, e5, _, wp⟩ := DataW.trod_int Tryd.underlying22 h5
      obtain ⟨zs, m, _, _, _, hzl, hi⟩ := DataW.trod_array Tryd.underlying24 h0
      rw [cells7_u32] at hi
      match zs, hzl with
      | [z0, z1, z2, z3, z4, z5, z6, z7], _ =>
        have k0 := hi 0 (by decide)
        have k1 := hi 1 (by decide)
        have k2 := hi 2 (by decide)
        have k3 := hi 3 (by decide)
        have k4 := hi 4 (by decide)
        have k5 := hi 5 (by decide)
        have k6 := hi 6 (by decide)
        have k7 := hi 7 (by decide)
        simp only [Nat.zero_mul, Nat.one_mul, Nat.mul_one, List.drop_zero, List.drop_succ_cons, List.take_succ_cons, List.take_zero, List.getElem?_cons_zero, List.getElem?_cons_succ] at k0 k1 k2 k3 k4 k5 k6 k7
        obtain ⟨r0, g0, _, w0⟩ := DataW.trod_int Tryd.underlying22 k0
        obtain ⟨r1, g1, _, w1⟩ := DataW.trod_int Tryd.underlying22 k1
        obtain ⟨r2, g2, _, w2⟩ := DataW.trod_int Tryd.underlying22 k2
        obtain ⟨r3, g3, _, w3⟩ := DataW.trod_int Tryd.underlying22 k3
        obtain ⟨r4, g4, _, w4⟩ := DataW.trod_int Tryd.underlying22 k4
        obtain ⟨r5, g5, _, w5⟩ := DataW.trod_int Tryd.underlying22 k5
        obtain ⟨r6, g6, _, w6⟩ := DataW.trod_int Tryd.underlying22 k6
        obtain ⟨r7, g7, _, w7⟩ := DataW.trod_int Tryd.underlying22 k7
        injection g0 with g0 _
        injection g1 with g1 _
        injection g2 with g2 _
        injection g3 with g3 _
        injection g4 with g4 _
        injection g5 with g5 _
        injection g6 with g6 _
        injection g7 with g7 _
        injection e1 with e1 _
        injection e2 with e2 _
        injection e3 with e3 _
        injection e4 with e4 _
        injection e5 with e5 _
        subst g0 g1 g2 g3 g4 g5 g6 g7 e1 e2 e3 e4 e5
        have v0 : 0 ≤ r0 ∧ r0 ≤ 4294967295 := by simpa [Lit.wf, IntKind.min, IntKind.max, IntKind.signed, IntKind.bits] using w0
        have v1 : 0 ≤ r1 ∧ r1 ≤ 4294967295 := by simpa [Lit.wf, IntKind.min, IntKind.max, IntKind.signed, IntKind.bits] using w1
        have v2 : 0 ≤ r2 ∧ r2 ≤ 4294967295 := by simpa [Lit.wf, IntKind.min, IntKind.max, IntKind.signed, IntKind.bits] using w2
        have v3 : 0 ≤ r3 ∧ r3 ≤ 4294967295 := by simpa [Lit.wf, IntKind.min, IntKind.max, IntKind.signed, IntKind.bits] using w3
        have v4 : 0 ≤ r4 ∧ r4 ≤ 4294967295 := by simpa [Lit.wf, IntKind.min, IntKind.max, IntKind.signed, IntKind.bits] using w4
        have v5 : 0 ≤ r5 ∧ r5 ≤ 4294967295 := by simpa [Lit.wf, IntKind.min, IntKind.max, IntKind.signed, IntKind.bits] using w5
        have v6 : 0 ≤ r6 ∧ r6 ≤ 4294967295 := by simpa [Lit.wf, IntKind.min, IntKind.max, IntKind.signed, IntKind.bits] using w6
        have v7 : 0 ≤ r7 ∧ r7 ≤ 4294967295 := by simpa [Lit.wf, IntKind.min, IntKind.max, IntKind.signed, IntKind.bits] using w7
        have va : -2147483648 ≤ a ∧ a ≤ 2147483647 := by simpa [Lit.wf, IntKind.min, IntKind.max, IntKind.signed, IntKind.bits] using wa
        have vb : -2147483648 ≤ b ∧ b ≤ 2147483647 := by simpa [Lit.wf, IntKind.min, IntKind.max, IntKind.signed, IntKind.bits] using wb
        have vc : -2147483648 ≤ c ∧ c ≤ 2147483647 := by simpa [Lit.wf, IntKind.min, IntKind.max, IntKind.signed, IntKind.bits] using wc
        have vd : -2147483648 ≤ d ∧ d ≤ 2147483647 := by simpa [Lit.wf, IntKind.min, IntKind.max, IntKind.signed, IntKind.bits] using wd
        have vp : 0 ≤ pc ∧ pc ≤ 4294967295 := by simpa [Lit.wf, IntKind.min, IntKind.max, IntKind.signed, IntKind.bits] using wp
        refine ⟨fun k => if k = 0 then r0 else if k = 1 then r1 else if k = 2 then r2 else if k = 3 then r3 else if k = 4 then r4 else if k = 5 then r5 else if k = 6 then r6 else r7, a, b, c, d, pc, rfl, fun k => ?_, va, vb, vc, vd, vp⟩
        dsimp only
        repeat' split
        all_goals first | exact v0 | exact v1 | exact v2 | exact v3 | exact v4 | exact v5 | exact v6 | exact v7
end
end Go.Proofs.YtoglmemmdolbmaaDoor
