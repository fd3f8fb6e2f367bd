/-
  What the rows of this chapter say of the tables, as facts on the world. No other condition.
-/
import Derived.Test.YtpcaeggecojaeaaDoorCard
import Derived.Test.YtpcaeggecojaeaaDoorTrPl
namespace Go.Proofs.YtpcaeggecojaeaaDoor
open Go.ChangeShapes Go.WideShapes Go.ChangeAt Go.RowKit Go.ChangeMaps
set_option linter.unusedVariables false
set_option linter.unusedSimpArgs false

theorem gWords : Tryd.prog.globalNamed "carryall/trace.words" = some 0 := by kernel_rfl
theorem tWords : (Tryd.prog.globals[0]?).map (·.type) = some 59 := by kernel_rfl
theorem dWords : (Rows.laid_carryall_trace_words : DataW Unit) = .agg (kindL.map fun x => .lit (.string x)) := rfl
theorem ground_of {W : World} {l : List (String × DataW Unit)} (h : laidMet Tryd.prog l W) (hs : W.ShapedOpen Tryd.prog) (hp : ("internal/strconv.uint64pow10", Rows.laid_internal_strconv_uint64pow10) ∈ l)
    (h1 : ("strconv.ErrSyntax", Rows.laid_strconv_ErrSyntax) ∈ l) (h2 : ("strconv.ErrRange", Rows.laid_strconv_ErrRange) ∈ l) (hw : ("carryall/trace.words", Rows.laid_carryall_trace_words) ∈ l) : Ground W := by
  refine ⟨pow_of h hp, maxL_of hs, errs_of h h1 h2, ?_⟩
  obtain ⟨g, t, cs, fuel, p, hg, ht, hd, hh⟩ := laid_heap h hw
  obtain rfl := Option.some.inj (gWords.symm.trans hg)
  obtain rfl := Option.some.inj (tWords.symm.trans ht)
  rw [dWords] at hd
  have e := arr_cells (fun x => .lit (.string x)) (fun l => [strV l]) 1 (fun _ => rfl) Tryd.underlying59 (by kernel_rfl) (by kernel_rfl) (fun m cs y x hy hx => trod_str Tryd.underlying9 hy hx) kindL hd
  have hcs : cs = kindArr := by
    rw [show cs = cs.toList.toArray from rfl, e]
    rfl
  obtain ⟨t', ht'⟩ := hh (by rw [hcs]; exact Nat.zero_lt_succ _)
  exact ⟨t', by rw [← hcs]; exact ht'⟩
end Go.Proofs.YtpcaeggecojaeaaDoor
