/-
  What the rows of this chapter say of the tables, as facts on the world. No other condition.
-/
import Derived.Test.YtgefnicpkfcghaaDoorCard
import Derived.Test.YtgefnicpkfcghaaDoorScS
namespace Go.Proofs.YtgefnicpkfcghaaDoor
open Go.ChangeShapes Go.WideShapes Go.ChangeAt Go.RowKit Go.ChangeMaps Go.Deep
set_option linter.unusedVariables false
set_option linter.unusedSimpArgs false

theorem gWords : Tryd.prog.globalNamed "carryall/script.words" = some 0 := by kernel_rfl
theorem tWords : (Tryd.prog.globals[0]?).map (·.type) = some 62 := by kernel_rfl
theorem dWords : (Rows.laid_carryall_script_words : DataW Unit) = .agg (kindL.map fun x => .lit (.string x)) := rfl
theorem ground_of {W : World} {l : List (String × DataW Unit)} (h : laidMet Tryd.prog l W) (hs : W.ShapedOpen Tryd.prog) (hp : ("internal/strconv.uint64pow10", Rows.laid_internal_strconv_uint64pow10) ∈ l)
    (h1 : ("strconv.ErrSyntax", Rows.laid_strconv_ErrSyntax) ∈ l) (h2 : ("strconv.ErrRange", Rows.laid_strconv_ErrRange) ∈ l) (hw : ("carryall/script.words", Rows.laid_carryall_script_words) ∈ l) : Ground W := by
  refine ⟨pow_of h hp, maxL_of hs, errs_of h h1 h2, ?_⟩
  obtain ⟨g, t, cs, fuel, p, hg, ht, hd, hh⟩ := laid_heap h hw
  obtain rfl := Option.some.inj (gWords.symm.trans hg)
  obtain rfl := Option.some.inj (tWords.symm.trans ht)
  rw [dWords] at hd
  have e := arr_cells (fun x => .lit (.string x)) (fun l => [strV l]) 1 (fun _ => rfl) Tryd.underlying62 (by kernel_rfl) (by kernel_rfl) (fun m cs y x hy hx => trod_str Tryd.underlying9 hy hx) kindL hd
  have hcs : cs = kindArr := by
    rw [show cs = cs.toList.toArray from rfl, e]
    rfl
  obtain ⟨t', ht'⟩ := hh (by rw [hcs]; exact Nat.zero_lt_succ _)
  exact ⟨t', by rw [← hcs]; exact ht'⟩


theorem cellsOf_int : Tryd.prog.cellsOf 3 = 1 := by kernel_rfl
theorem cellsOf_u32 : Tryd.prog.cellsOf 22 = 1 := by kernel_rfl
theorem cellsOf_str : Tryd.prog.cellsOf 9 = 1 := by kernel_rfl
theorem cellsOf_op : Tryd.prog.cellsOf 24 = 7 := by kernel_rfl
section
variable {H : Type} {enc : TypeId × Value → H} {w : World} {base : Nat} {spare : Nat → Bool} {held : Bool}
theorem trod_s {fuel : Nat} {t : TypeId} (ht : Tryd.prog.underlying t = some .string) {cs : List Value} {y : DataW H × List MemPlace} (h : DataW.trod enc Tryd.prog w base spare held fuel t cs = some y) : ∃ s, cs = [.string s] := by
  cases fuel with
  | zero => simp [DataW.trod] at h
  | succ n =>
    rcases cs with _ | ⟨a, _ | ⟨b, r⟩⟩
    · simp [DataW.trod, ht] at h
    · cases a
      case string s => exact ⟨s, rfl⟩
      all_goals simp [DataW.trod, ht] at h
    · simp [DataW.trod, ht] at h
set_option maxRecDepth 100000 in
theorem trod_op {fuel : Nat} {cs : List Value} {y : DataW H × List MemPlace} (h : DataW.trod enc Tryd.prog w base spare held fuel 24 cs = some y) : ∃ x : {x : O // RangeO x}, cs = x.1.cells := by
  obtain ⟨xs, n, rfl, hx, hlen, hxl, hf⟩ := DataW.trod_struct Tryd.underlying24 h
  rw [cellsOf_op] at hlen
  match cs, hlen with
  | [c0, c1, c2, c3, c4, c5, c6], _ =>
    match xs, hxl with
    | [y0, y1, y2, y3, y4, y5, y6], _ =>
      have h0 := hf 0 _ rfl
      have h1 := hf 1 _ rfl
      have h2 := hf 2 _ rfl
      have h3 := hf 3 _ rfl
      have h4 := hf 4 _ rfl
      have h5 := hf 5 _ rfl
      have h6 := hf 6 _ rfl
      simp only [cellsOf_int, cellsOf_u32, cellsOf_str, List.drop_zero, List.drop_succ_cons, List.take_succ_cons, List.take_zero, List.getElem?_cons_zero, List.getElem?_cons_succ] at h0 h1 h2 h3 h4 h5 h6
      obtain ⟨a0, e0, _, w0⟩ := DataW.trod_int Tryd.underlying3 h0
      obtain ⟨a1, e1, _, w1⟩ := DataW.trod_int Tryd.underlying3 h1
      obtain ⟨a2, e2, _, w2⟩ := DataW.trod_int Tryd.underlying3 h2
      obtain ⟨a3, e3, _, w3⟩ := DataW.trod_int Tryd.underlying3 h3
      obtain ⟨a4, e4, _, w4⟩ := DataW.trod_int Tryd.underlying3 h4
      obtain ⟨a5, e5, _, w5⟩ := DataW.trod_int Tryd.underlying22 h5
      obtain ⟨a6, e6⟩ := trod_s Tryd.underlying9 h6
      injection e0 with e0 _; injection e1 with e1 _; injection e2 with e2 _; injection e3 with e3 _; injection e4 with e4 _; injection e5 with e5 _; injection e6 with e6 _
      have r1 : -9223372036854775808 ≤ a1 ∧ a1 ≤ 9223372036854775807 := by simpa [Lit.wf, IntKind.min, IntKind.max, IntKind.signed, IntKind.bits] using w1
      have r2 : -9223372036854775808 ≤ a2 ∧ a2 ≤ 9223372036854775807 := by simpa [Lit.wf, IntKind.min, IntKind.max, IntKind.signed, IntKind.bits] using w2
      have r3 : -9223372036854775808 ≤ a3 ∧ a3 ≤ 9223372036854775807 := by simpa [Lit.wf, IntKind.min, IntKind.max, IntKind.signed, IntKind.bits] using w3
      have r4 : -9223372036854775808 ≤ a4 ∧ a4 ≤ 9223372036854775807 := by simpa [Lit.wf, IntKind.min, IntKind.max, IntKind.signed, IntKind.bits] using w4
      have r5 : 0 ≤ a5 ∧ a5 ≤ 4294967295 := by simpa [Lit.wf, IntKind.min, IntKind.max, IntKind.signed, IntKind.bits] using w5
      exact ⟨⟨⟨a0, a1, a2, a3, a4, a5, a6⟩, ⟨r1, r2, r3, r4, r5⟩⟩, by rw [e0, e1, e2, e3, e4, e5, e6]; rfl⟩
set_option maxRecDepth 100000 in
theorem open_ops {v : Value} {d : DataW H} {p : List MemPlace} {r : Reach} {b0 : Nat} (hv : Value.okWide Tryd.prog w r b0 37 v) (h : DataW.Trod enc Tryd.prog w 0 (fun _ => true) true 37 v d p) :
    ∃ (A : Option Addr) (c : Nat) (l : List O), v = .slice A l.length c ∧ OpsAt w A l ∧ l.length ≤ maxLen ∧ Vals l := by
  obtain ⟨A, c, l, rfl, hO, hl⟩ := open_rows (fun x : {x : O // RangeO x} => x.1.cells) (by decide) (fun _ => rfl) Tryd.underlying37 cellsOf_op trod_op hv h
  refine ⟨A, c, l.map Subtype.val, by rw [List.length_map], ?_, by rw [List.length_map]; exact hl, fun x hx => ?_⟩
  · unfold OpsAt
    rw [List.map_map]
    exact hO
  · obtain ⟨y, _, rfl⟩ := List.mem_map.1 hx
    exact y.2
end
end Go.Proofs.YtgefnicpkfcghaaDoor
