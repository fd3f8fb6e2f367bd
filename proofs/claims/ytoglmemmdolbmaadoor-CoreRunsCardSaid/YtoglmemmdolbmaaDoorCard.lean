/-
  From a row's own condition to facts on the world's first tables: whole numbers, texts; a row's builder that keeps the world's shape. Generic. No condition.
-/
import Derived.SevenTiedAt
import Derived.ChangeMaps5
import Derived.Carry
import Derived.LaidMore
import Derived.Lay
import Derived.MakeChecks
import Derived.Test.YtoglmemmdolbmaaDoorTab
import Derived.Test.YtoglmemmdolbmaaDoorClose
import Derived.Test.YtoglmemmdolbmaaDoorStr3
namespace Go.Proofs.YtoglmemmdolbmaaDoor
open Go.ChangeShapes Go.WideShapes Go.ChangeAt Go.RowKit Go.ChangeMaps
set_option linter.unusedVariables false
set_option linter.unusedSimpArgs false

theorem own : ownKnob Tryd.prog.godebug = none := by kernel_rfl
theorem laidOut : laidOutB Tryd.prog = true := by kernel_rfl

section
variable {H : Type} {enc : TypeId × Value → H}
/-- The row's builder: the contract is handed the row's own condition and the world's shape. -/
theorem handed_all {a : Assume} {C : Checked} {os : Os} {f : FuncId} {fn : Func} {s : ChangeSpec} {conds : List PathCond} {apart fresh handsOn again : Bool} {X : World → Array Value → Prop}
    (hX : ∀ (w w' : World) (args : Array Value), w.heap = w'.heap → X w args → X w' args)
    (own : ownKnob C.prog.godebug = none) (started : os.Started) (noInit : C.prog.inits.idxOf? f = none) (hfn : C.prog.funcs[f]? = some fn)
    (witness : ∃ (w : World) (tape : Tape) (i : Input), w.os = os ∧ (w.forCall tape i).Shaped C.prog ∧ i.vars = [] ∧ Input.okWide C.prog (w.forCall tape i) .any w.heap.size f i ∧
      ((s.pre enc C.prog fn conds apart (w.forCall tape i).memory i.args ∧ X (w.forCall tape i).memory i.args) ∧ sizedMet enc C.prog fn (OpenSpec.ofChange s) apart (w.forCall tape i).memory i.args) ∧ a.holds C.prog (lone (Frame.enter C.prog f i.args .normal) [] (w.forCall tape i)))
    (contract : ∀ (W : World) (base : Nat) (args : Array Value) (ds gs : List (DataW H)) (before : List MemPlace),
      (∀ (j : Nat) t v, fn.params[j]? = some t → args[j]? = some v → Value.okWide C.prog W .any base t v) →
      DataW.Whole enc C.prog fn.params.toList s.vars apart W args.toList ds gs before → X W args → W.ShapedOpen C.prog →
      Calls C.prog f args W fun e W' => ∃ v, e = .returned v ∧ s.post enc C.prog fn apart fresh handsOn again W args v W') :
    ReturnsInHanded a C os f .any (fun w args => (s.pre enc C.prog fn conds apart w args ∧ X w args) ∧ sizedMet enc C.prog fn (OpenSpec.ofChange s) apart w args) (s.post enc C.prog fn apart fresh handsOn again) := by
  refine returnsInHanded_of_calls own started noInit witness ?_
  intro w tape i _ hsh _ hok hpre hholds
  obtain ⟨_, _, _, fn', hfn', _, _, _, _, hval⟩ := hok
  have e : fn' = fn := Option.some.inj (hfn'.symm.trans hfn)
  subst e
  obtain ⟨⟨⟨ds, gs, before, hw, hc⟩, hx⟩, hz⟩ := hpre
  have hw' := DataW.Whole.of_heap (w' := w.forCall tape i) (by rfl) hw
  refine (contract (w.forCall tape i) w.heap.size i.args ds gs before hval hw' (hX _ _ _ (by rfl) hx) hsh).mono fun e W' ⟨v, he, hp⟩ => ?_
  subst he
  exact ChangeSpec.post_blind hp

theorem trod_ifc {P : Program} {w : World} {base : Nat} {sp : Nat → Bool} {held : Bool} {fuel : Nat} {t : TypeId} {cs : List Value} {nm : String} {d : DataW H} {p : List MemPlace} {ms : Array (String × TypeId)}
    (ht : P.underlying t = some (.interface ms)) (h : DataW.trod enc P w base sp held fuel t cs = some (.iface nm d, p)) : ∃ u v, cs = [.iface u v] := by
  cases fuel with
  | zero => simp [DataW.trod] at h
  | succ n =>
    rcases cs with _ | ⟨a, _ | ⟨b, r⟩⟩
    · simp [DataW.trod, ht] at h
    · cases a
      case iface u v => exact ⟨u, v, rfl⟩
      all_goals simp [DataW.trod, ht] at h
    · simp [DataW.trod, ht] at h
theorem trod_str {P : Program} {w : World} {base : Nat} {sp : Nat → Bool} {held : Bool} {fuel : Nat} {t : TypeId} (ht : P.underlying t = some .string) {cs : List Value} {y : DataW H × List MemPlace} {l : List UInt8}
    (h : DataW.trod enc P w base sp held fuel t cs = some y) (hy : y.1 = .lit (.string l)) : cs = [.string ⟨l.toArray⟩] := by
  cases fuel with
  | zero => simp [DataW.trod] at h
  | succ n =>
    rcases cs with _ | ⟨a, _ | ⟨b, r⟩⟩
    · simp [DataW.trod, ht] at h
    · cases a
      case string s =>
        simp only [DataW.trod, ht] at h
        split at h
        · injection h with h
          subst h
          simp only [DataW.lit.injEq, Lit.string.injEq] at hy
          rw [bytes_of hy]
        · cases h
      all_goals simp [DataW.trod, ht] at h
    · simp [DataW.trod, ht] at h
end

theorem tPow : (Tryd.prog.globals[1]?).map (·.type) = some 161 := by kernel_rfl
theorem dPow : (Rows.laid_internal_strconv_uint64pow10 : DataW Unit) = Lib.tabData .u64 Lib.pow10Tab := rfl
theorem pow_of {W : World} {l : List (String × DataW Unit)} (h : laidMet Tryd.prog l W) (hk : ("internal/strconv.uint64pow10", Rows.laid_internal_strconv_uint64pow10) ∈ l) : Pow W := by
  obtain ⟨g, t, cs, fuel, p, hg, ht, hd, hh⟩ := laid_heap h hk
  obtain rfl := Option.some.inj (gPow.symm.trans hg)
  obtain rfl := Option.some.inj (tPow.symm.trans ht)
  rw [dPow] at hd
  have e := Lib.cells_of_tab Tryd.underlying161 Tryd.underlying55 (by kernel_rfl) (by kernel_rfl) hd
  have hcs : cs = powArr := by
    rw [show cs = cs.toList.toArray from rfl, e]
    rfl
  obtain ⟨t', ht'⟩ := hh (by rw [hcs]; exact Nat.zero_lt_succ _)
  exact ⟨t', by rw [← hcs]; exact ht'⟩
end Go.Proofs.YtoglmemmdolbmaaDoor
