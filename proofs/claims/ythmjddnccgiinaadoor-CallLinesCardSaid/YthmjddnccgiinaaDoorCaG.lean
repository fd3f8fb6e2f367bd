/-
  What the rows of this chapter say of the tables, and of calls that come in, as facts on the world. No other condition.
-/
import Derived.Test.YthmjddnccgiinaaDoorCard
import Derived.Test.YthmjddnccgiinaaDoorCallLaid
import Derived.Test.YthmjddnccgiinaaDoorCaA
namespace Go.Proofs.YthmjddnccgiinaaDoor
open Go.ChangeShapes Go.WideShapes Go.ChangeAt Go.RowKit Go.ChangeMaps Go.Deep
set_option linter.unusedVariables false
set_option linter.unusedSimpArgs false

theorem ground_of {W : World} {l : List (String × DataW Unit)} (h : laidMet Tryd.prog l W) (hk : ("carryall/call.kinds", Rows.laid_carryall_call_kinds) ∈ l) (hp : ("internal/strconv.uint64pow10", Rows.laid_internal_strconv_uint64pow10) ∈ l) : Ground W :=
  ⟨laid_of h hk, pow_of h hp⟩
theorem groundR_of {W : World} {l : List (String × DataW Unit)} (h : laidMet Tryd.prog l W) (hs : W.ShapedOpen Tryd.prog) (hk : ("carryall/call.kinds", Rows.laid_carryall_call_kinds) ∈ l) (hp : ("internal/strconv.uint64pow10", Rows.laid_internal_strconv_uint64pow10) ∈ l)
    (h1 : ("strconv.ErrSyntax", Rows.laid_strconv_ErrSyntax) ∈ l) (h2 : ("strconv.ErrRange", Rows.laid_strconv_ErrRange) ∈ l) : GroundR W :=
  ⟨ground_of h hk hp, maxL_of hs, errs_of h h1 h2⟩

theorem cellsOf_int : Tryd.prog.cellsOf 3 = 1 := by kernel_rfl
theorem cellsOf_u32 : Tryd.prog.cellsOf 22 = 1 := by kernel_rfl
theorem cellsOf_arr : Tryd.prog.cellsOf 25 = 3 := by kernel_rfl
theorem cellsOf_call : Tryd.prog.cellsOf 27 = 4 := by kernel_rfl
section
variable {H : Type} {enc : TypeId × Value → H} {w : World} {base : Nat} {spare : Nat → Bool} {held : Bool}
set_option maxRecDepth 100000 in
theorem trod_call {fuel : Nat} {cs : List Value} {y : DataW H × List MemPlace} (h : DataW.trod enc Tryd.prog w base spare held fuel 27 cs = some y) : ∃ x : {x : Cl // InC x}, cs = x.1.cells := by
  obtain ⟨xs, n, rfl, hx, hlen, hxl, hf⟩ := DataW.trod_struct Tryd.underlying27 h
  rw [cellsOf_call] at hlen
  match cs, hlen with
  | [c0, c1, c2, c3], _ =>
    match xs, hxl with
    | [y0, y1], _ =>
      have h0 := hf 0 _ rfl
      have h1 := hf 1 _ rfl
      simp only [cellsOf_int, cellsOf_arr, List.drop_zero, List.drop_succ_cons, List.take_succ_cons, List.take_zero, List.getElem?_cons_zero, List.getElem?_cons_succ] at h0 h1
      obtain ⟨a0, e0, _, w0⟩ := DataW.trod_int Tryd.underlying3 h0
      obtain ⟨zs, m, _, _, hl3, hn3, hi⟩ := DataW.trod_array Tryd.underlying25 h1
      rw [cellsOf_u32] at hi
      have g0 := hi 0 (by omega)
      have g1 := hi 1 (by omega)
      have g2 := hi 2 (by omega)
      rw [show zs[0]? = some (zs[0]'(by omega)) from List.getElem?_eq_getElem (by omega)] at g0
      rw [show zs[1]? = some (zs[1]'(by omega)) from List.getElem?_eq_getElem (by omega)] at g1
      rw [show zs[2]? = some (zs[2]'(by omega)) from List.getElem?_eq_getElem (by omega)] at g2
      obtain ⟨a1, e1, _, w1⟩ := DataW.trod_int Tryd.underlying22 g0
      obtain ⟨a2, e2, _, w2⟩ := DataW.trod_int Tryd.underlying22 g1
      obtain ⟨a3, e3, _, w3⟩ := DataW.trod_int Tryd.underlying22 g2
      simp only [Nat.zero_mul, Nat.one_mul, Nat.reduceMul, List.drop_zero, List.drop_succ_cons, List.take_succ_cons, List.take_zero] at e1 e2 e3
      injection e0 with e0 _; injection e1 with e1 _; injection e2 with e2 _; injection e3 with e3 _
      have r0 : -9223372036854775808 ≤ a0 ∧ a0 ≤ 9223372036854775807 := by simpa [Lit.wf, IntKind.min, IntKind.max, IntKind.signed, IntKind.bits] using w0
      have r1 : 0 ≤ a1 ∧ a1 ≤ 4294967295 := by simpa [Lit.wf, IntKind.min, IntKind.max, IntKind.signed, IntKind.bits] using w1
      have r2 : 0 ≤ a2 ∧ a2 ≤ 4294967295 := by simpa [Lit.wf, IntKind.min, IntKind.max, IntKind.signed, IntKind.bits] using w2
      have r3 : 0 ≤ a3 ∧ a3 ≤ 4294967295 := by simpa [Lit.wf, IntKind.min, IntKind.max, IntKind.signed, IntKind.bits] using w3
      exact ⟨⟨⟨a0, a1, a2, a3⟩, ⟨r0, r1, r2, r3⟩⟩, by rw [e0, e1, e2, e3]; rfl⟩
set_option maxRecDepth 100000 in
theorem open_call {v : Value} {d : DataW H} {p : List MemPlace} {r : Reach} {b0 : Nat} (hv : Value.okWide Tryd.prog w r b0 27 v) (h : DataW.Trod enc Tryd.prog w base spare held 27 v d p) :
    ∃ N a b c : Int, v = .agg #[.int .i64 N, .int .u32 a, .int .u32 b, .int .u32 c] ∧ InC ⟨N, a, b, c⟩ := by
  simp only [Value.okWide, Tryd.underlying27] at hv
  obtain ⟨cs, rfl, hsz, _⟩ := hv
  obtain ⟨fuel, hf⟩ := h
  obtain ⟨⟨⟨N, a, b, c⟩, hx⟩, e⟩ := trod_call hf
  refine ⟨N, a, b, c, ?_, hx⟩
  have e2 : cs.toList = [.int .i64 N, .int .u32 a, .int .u32 b, .int .u32 c] := e
  rw [show cs = cs.toList.toArray from rfl, e2]
set_option maxRecDepth 100000 in
theorem open_calls {v : Value} {d : DataW H} {p : List MemPlace} {r : Reach} {b0 : Nat} (hv : Value.okWide Tryd.prog w r b0 40 v) (h : DataW.Trod enc Tryd.prog w 0 (fun _ => true) true 40 v d p) :
    ∃ (A : Option Addr) (c : Nat) (l : List Cl), v = .slice A l.length c ∧ CallsAt w A l ∧ l.length ≤ maxLen ∧ ∀ x ∈ l, InC x := by
  obtain ⟨A, c, l, rfl, hO, hl⟩ := open_rows (fun x : {x : Cl // InC x} => x.1.cells) (by decide) (fun _ => rfl) Tryd.underlying40 cellsOf_call trod_call hv h
  refine ⟨A, c, l.map Subtype.val, by rw [List.length_map], ?_, by rw [List.length_map]; exact hl, fun x hx => ?_⟩
  · unfold CallsAt
    rw [List.map_map]
    exact hO
  · obtain ⟨y, _, rfl⟩ := List.mem_map.1 hx
    exact y.2
end
end Go.Proofs.YthmjddnccgiinaaDoor
