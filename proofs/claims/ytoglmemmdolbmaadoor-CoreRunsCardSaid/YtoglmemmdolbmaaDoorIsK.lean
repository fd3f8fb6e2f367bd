/-
  What the rows of this chapter say of the tables, and of instructions that come in, as facts on the world. No other condition.
-/
import Derived.Lib.SmallJoins
import Derived.Test.YtoglmemmdolbmaaDoorCard
import Derived.Test.YtoglmemmdolbmaaDoorIsBy
namespace Go.Proofs.YtoglmemmdolbmaaDoor.I
open Go.ChangeShapes Go.WideShapes Go.ChangeAt Go.RowKit Go.ChangeMaps Go.Deep
set_option linter.unusedVariables false
set_option linter.unusedSimpArgs false

theorem gForms : Tryd.prog.globalNamed "carryall/isa.forms" = some 0 := by kernel_rfl
theorem tForms : (Tryd.prog.globals[0]?).map (·.type) = some 116 := by kernel_rfl
theorem dForms : (Rows.laid_carryall_isa_forms : DataW Unit) = .agg (formsL.map fun x => .agg [.lit (.string x.1), .lit (.int .i64 x.2.1), .lit (.int .i64 x.2.2.1), .lit (.bool x.2.2.2)]) := rfl
section
variable {H : Type} {enc : TypeId × Value → H} {W : World} {sp : Nat → Bool} {held : Bool}
set_option maxRecDepth 100000 in
theorem trod_form : ∀ m c y (x : List UInt8 × Int × Int × Bool), DataW.trod enc Tryd.prog W 0 sp held m 76 c = some y → y.1 = .agg [.lit (.string x.1), .lit (.int .i64 x.2.1), .lit (.int .i64 x.2.2.1), .lit (.bool x.2.2.2)] → c = cellsF x := by
  intro m c y x h hy
  obtain ⟨xs, n, rfl, rfl, hlen, hxl, hf⟩ := DataW.trod_struct Tryd.underlying76 h
  rw [show Tryd.prog.cellsOf 76 = 4 from by kernel_rfl] at hlen
  match c, hlen with
  | [c0, c1, c2, c3], _ =>
    match xs, hxl with
    | [y0, y1, y2, y3], _ =>
      have g0 := hf 0 _ rfl
      have g1 := hf 1 _ rfl
      have g2 := hf 2 _ rfl
      have g3 := hf 3 _ rfl
      simp only [show Tryd.prog.cellsOf 9 = 1 from by kernel_rfl, show Tryd.prog.cellsOf 3 = 1 from by kernel_rfl, show Tryd.prog.cellsOf 4 = 1 from by kernel_rfl, List.drop_zero, List.drop_succ_cons, List.take_succ_cons, List.take_zero, List.getElem?_cons_zero, List.getElem?_cons_succ] at g0 g1 g2 g3
      obtain ⟨s, e0, e0', _⟩ := DataW.trod_string Tryd.underlying9 g0
      obtain ⟨k, e1, e1', _⟩ := DataW.trod_int Tryd.underlying3 g1
      obtain ⟨l, e2, e2', _⟩ := DataW.trod_int Tryd.underlying3 g2
      obtain ⟨b, e3, e3'⟩ := DataW.trod_bool Tryd.underlying4 g3
      subst e0' e1' e2' e3'
      simp only [List.map_cons, List.map_nil, DataW.agg.injEq, List.cons.injEq, DataW.lit.injEq, Lit.string.injEq, Lit.int.injEq, Lit.bool.injEq, true_and, and_true] at hy
      injection e0 with e0 _
      injection e1 with e1 _
      injection e2 with e2 _
      injection e3 with e3 _
      obtain ⟨h0, h1, h2, h3⟩ := hy
      rw [e0, e1, e2, e3, h1, h2, h3, bytes_of h0]
      rfl
end
theorem laid_of {W : World} {l : List (String × DataW Unit)} (h : laidMet Tryd.prog l W) (hk : ("carryall/isa.forms", Rows.laid_carryall_isa_forms) ∈ l) : Laid W := by
  constructor
  obtain ⟨g, t, cs, fuel, p, hg, ht, hd, hh⟩ := laid_heap h hk
  obtain rfl := Option.some.inj (gForms.symm.trans hg)
  obtain rfl := Option.some.inj (tForms.symm.trans ht)
  rw [dForms] at hd
  have e := arr_cells _ cellsF 4 (fun _ => rfl) Tryd.underlying116 (by kernel_rfl) (by kernel_rfl) trod_form formsL hd
  have hcs : cs = fArr := by rw [show cs = cs.toList.toArray from rfl, e]; rfl
  obtain ⟨t', ht'⟩ := hh (by rw [hcs]; exact Nat.zero_lt_succ _)
  exact ⟨t', by rw [← hcs]; exact ht'⟩
theorem ground_of {W : World} {l : List (String × DataW Unit)} (h : laidMet Tryd.prog l W) (hs : W.ShapedOpen Tryd.prog) (hk : ("carryall/isa.forms", Rows.laid_carryall_isa_forms) ∈ l) (hp : ("internal/strconv.uint64pow10", Rows.laid_internal_strconv_uint64pow10) ∈ l) : Ground W :=
  ⟨laid_of h hk, pow_of h hp, maxL_of hs⟩

section
variable {H : Type} {enc : TypeId × Value → H} {w : World} {base : Nat} {spare : Nat → Bool} {held : Bool}
def InI (x : Ins) : Prop := (-9223372036854775808 ≤ x.op ∧ x.op ≤ 9223372036854775807) ∧ (-9223372036854775808 ≤ x.a ∧ x.a ≤ 9223372036854775807) ∧ (-9223372036854775808 ≤ x.b ∧ x.b ≤ 9223372036854775807) ∧ (-9223372036854775808 ≤ x.imm ∧ x.imm ≤ 9223372036854775807)
set_option maxRecDepth 100000 in
theorem open_ins {v : Value} {d : DataW H} {p : List MemPlace} {r : Reach} {b0 : Nat} (hv : Value.okWide Tryd.prog w r b0 38 v) (h : DataW.Trod enc Tryd.prog w base spare held 38 v d p) :
    ∃ o a b c : Int, v = .agg #[.int .i64 o, .int .i64 a, .int .i64 b, .int .i64 c] ∧ InI ⟨o, a, b, c⟩ := by
  obtain ⟨v0, v1, v2, v3, y0, y1, y2, y3, n, rfl, _, _, h0, h1, h2, h3⟩ := Go.Joins.open_agg4 Tryd.underlying38 (by kernel_rfl) (by kernel_rfl) hv h
  obtain ⟨a0, e0, _, w0⟩ := DataW.trod_int Tryd.underlying3 h0
  obtain ⟨a1, e1, _, w1⟩ := DataW.trod_int Tryd.underlying3 h1
  obtain ⟨a2, e2, _, w2⟩ := DataW.trod_int Tryd.underlying3 h2
  obtain ⟨a3, e3, _, w3⟩ := DataW.trod_int Tryd.underlying3 h3
  injection e0 with e0 _; injection e1 with e1 _; injection e2 with e2 _; injection e3 with e3 _
  have r0 : -9223372036854775808 ≤ a0 ∧ a0 ≤ 9223372036854775807 := by simpa [Lit.wf, IntKind.min, IntKind.max, IntKind.signed, IntKind.bits] using w0
  have r1 : -9223372036854775808 ≤ a1 ∧ a1 ≤ 9223372036854775807 := by simpa [Lit.wf, IntKind.min, IntKind.max, IntKind.signed, IntKind.bits] using w1
  have r2 : -9223372036854775808 ≤ a2 ∧ a2 ≤ 9223372036854775807 := by simpa [Lit.wf, IntKind.min, IntKind.max, IntKind.signed, IntKind.bits] using w2
  have r3 : -9223372036854775808 ≤ a3 ∧ a3 ≤ 9223372036854775807 := by simpa [Lit.wf, IntKind.min, IntKind.max, IntKind.signed, IntKind.bits] using w3
  exact ⟨a0, a1, a2, a3, by rw [e0, e1, e2, e3], ⟨r0, r1, r2, r3⟩⟩
end
end Go.Proofs.YtoglmemmdolbmaaDoor.I
