/-
  What a row of this seat lists of package call's tables, as the walks want it. Condition: the row lists both tables.
-/
import Derived.Test.YthmjddnccgiinaaDoorCall1
import Derived.Test.YthmjddnccgiinaaDoorTie
import Derived.MakeChecks
namespace Go.Proofs.YthmjddnccgiinaaDoor
open Go.ChangeShapes Go.WideShapes Go.ChangeAt Go.RowKit
set_option linter.unusedVariables false

section
variable {H : Type} {enc : TypeId × Value → H} {P : Program} {w : World} {base : Nat} {spare : Nat → Bool} {held : Bool}
/-- An array of numbers that came in. -/
theorem open_ints_arr {r : Reach} {b0 : Nat} {t e : TypeId} {n : Nat} {k : IntKind} {v : Value} {d : DataW H} {p : List MemPlace} (ht : P.underlying t = some (.array n e)) (he : P.underlying e = some (.int k)) (hC : P.cellsOf e = 1) (hT : P.cellsOf t = n)
    (hv : Value.okWide P w r b0 t v) (h : DataW.Trod enc P w base spare held t v d p) : ∃ R : Nat → Int, v = .agg ((List.range n).map fun i => Value.int k (R i)).toArray ∧ ∀ i, i < n → (Lit.int k (R i)).wf = true := by
  simp only [Value.okWide, ht] at hv
  obtain ⟨cs, rfl, hsz, _⟩ := hv
  obtain ⟨fuel, hf⟩ := h
  obtain ⟨xs, m, _, _, hlen, hn, hi⟩ := DataW.trod_array ht hf
  rw [hC] at hi
  have hcl : cs.toList.length = n := by simpa [hT] using hsz
  have hex : ∀ i, i < n → ∃ x : Int, cs.toList[i]? = some (.int k x) ∧ (Lit.int k x).wf = true := fun i hin => by
    have h1 := hi i hin
    rw [show xs[i]? = some (xs[i]'(by omega)) from List.getElem?_eq_getElem (by omega)] at h1
    obtain ⟨x, e1, _, e3⟩ := DataW.trod_int he h1
    refine ⟨x, ?_, e3⟩
    have e2 := congrArg (fun l => l[0]?) e1
    simp only [Value.cells, Nat.mul_one, List.getElem?_cons_zero, List.getElem?_take, List.getElem?_drop, Nat.add_zero] at e2
    simpa using e2
  refine ⟨fun i => if hin : i < n then Classical.choose (hex i hin) else 0, ?_, fun i hin => ?_⟩
  · congr 1
    apply Array.ext'
    apply List.ext_getElem?
    intro i
    rcases Nat.lt_or_ge i n with hin | hge
    · rw [(Classical.choose_spec (hex i hin)).1]
      simp [hin]
    · rw [List.getElem?_eq_none (by omega), List.getElem?_eq_none (by simpa using hge)]
  · simp only [dif_pos hin]
    exact (Classical.choose_spec (hex i hin)).2
theorem trodAll_five {t t1 t2 t3 t4 : TypeId} {args : Array Value} {ds : List (DataW H)} {ps : List MemPlace} (h : DataW.TrodAll enc P w base spare held [t, t1, t2, t3, t4] args.toList ds ps) :
    ∃ v v1 v2 v3 v4 d d1 d2 d3 d4 p p1 p2 p3 p4, args = #[v, v1, v2, v3, v4] ∧ ds = [d, d1, d2, d3, d4] ∧ ps = p ++ p1 ++ p2 ++ p3 ++ p4 ∧ DataW.Trod enc P w base spare held t v d p ∧ DataW.Trod enc P w base spare held t1 v1 d1 p1 ∧ DataW.Trod enc P w base spare held t2 v2 d2 p2 ∧ DataW.Trod enc P w base spare held t3 v3 d3 p3 ∧ DataW.Trod enc P w base spare held t4 v4 d4 p4 := by
  obtain ⟨v, vs, d, ds0, p, q, hargs, rfl, rfl, hd, hr0⟩ := trodAll_cons h
  obtain ⟨v1, vs1, d1, ds1, p1, q1, rfl, rfl, rfl, hd1, hr1⟩ := trodAll_cons hr0
  obtain ⟨v2, vs2, d2, ds2, p2, q2, rfl, rfl, rfl, hd2, hr2⟩ := trodAll_cons hr1
  obtain ⟨v3, vs3, d3, ds3, p3, q3, rfl, rfl, rfl, hd3, hr3⟩ := trodAll_cons hr2
  obtain ⟨v4, vs4, d4, ds4, p4, q4, rfl, rfl, rfl, hd4, hr4⟩ := trodAll_cons hr3
  obtain ⟨rfl, rfl, rfl⟩ := trodAll_nil hr4
  exact ⟨v, v1, v2, v3, v4, d, d1, d2, d3, d4, p, p1, p2, p3, p4, by cases args; simp_all, rfl, by simp, hd, hd1, hd2, hd3, hd4⟩
end

theorem gKinds : Tryd.prog.globalNamed "carryall/call.kinds" = some 0 := by kernel_rfl
theorem gCodes : Tryd.prog.globalNamed "carryall/call.codes" = some 1 := by kernel_rfl
theorem tKinds : (Tryd.prog.globals[0]?).map (·.type) = some 64 := by kernel_rfl
theorem tCodes : (Tryd.prog.globals[1]?).map (·.type) = some 66 := by kernel_rfl
theorem dKinds : (Rows.laid_carryall_call_kinds : DataW Unit) = .agg (kindsL.map fun x => .agg [.lit (.string x.1), .lit (.int .i64 x.2)]) := rfl
theorem dCodes : (Rows.laid_carryall_call_codes : DataW Unit) = .agg (codesL.map fun x => .agg [.lit (.int .i64 x.1), .lit (.string x.2)]) := rfl
theorem laid_of {W : World} {l : List (String × DataW Unit)} (h : laidMet Tryd.prog l W) (hk : ("carryall/call.kinds", Rows.laid_carryall_call_kinds) ∈ l) : Laid W := by
  constructor
  · obtain ⟨g, t, cs, fuel, p, hg, ht, hd, hh⟩ := laid_heap h hk
    obtain rfl := Option.some.inj (gKinds.symm.trans hg)
    obtain rfl := Option.some.inj (tKinds.symm.trans ht)
    rw [dKinds] at hd
    have e := arr_cells _ pairSI 2 (fun _ => rfl) Tryd.underlying64 (by kernel_rfl) (by kernel_rfl) (trod_pairSI Tryd.underlying62 ⟨rfl, rfl⟩ ⟨rfl, rfl⟩ Tryd.underlying9 Tryd.underlying3 (by kernel_rfl) (by kernel_rfl) (by kernel_rfl)) kindsL hd
    have hcs : cs = kArr := by rw [show cs = cs.toList.toArray from rfl, e]; rfl
    obtain ⟨t', ht'⟩ := hh (by rw [hcs]; exact Nat.zero_lt_succ _)
    exact ⟨t', by rw [← hcs]; exact ht'⟩
theorem codes_of {W : World} {l : List (String × DataW Unit)} (h : laidMet Tryd.prog l W) (hc : ("carryall/call.codes", Rows.laid_carryall_call_codes) ∈ l) : Codes W := by
  constructor
  · obtain ⟨g, t, cs, fuel, p, hg, ht, hd, hh⟩ := laid_heap h hc
    obtain rfl := Option.some.inj (gCodes.symm.trans hg)
    obtain rfl := Option.some.inj (tCodes.symm.trans ht)
    rw [dCodes] at hd
    have e := arr_cells _ pairIS 2 (fun _ => rfl) Tryd.underlying66 (by kernel_rfl) (by kernel_rfl) (trod_pairIS Tryd.underlying65 ⟨rfl, rfl⟩ ⟨rfl, rfl⟩ Tryd.underlying9 Tryd.underlying3 (by kernel_rfl) (by kernel_rfl) (by kernel_rfl)) codesL hd
    have hcs : cs = cArr := by rw [show cs = cs.toList.toArray from rfl, e]; rfl
    obtain ⟨t', ht'⟩ := hh (by rw [hcs]; exact Nat.zero_lt_succ _)
    exact ⟨t', by rw [← hcs]; exact ht'⟩
end Go.Proofs.YthmjddnccgiinaaDoor
