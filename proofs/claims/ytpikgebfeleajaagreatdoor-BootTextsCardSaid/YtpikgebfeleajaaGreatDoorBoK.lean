/-
  What the rows of this chapter say of the tables, and of boots that come in, as facts on the world. No other condition.
-/
import Derived.SevenTiedAt
import Derived.ChangeMaps5
import Derived.Carry
import Derived.LaidMore
import Derived.Lay
import Derived.MakeChecks
import Derived.Test.YtpikgebfeleajaaGreatDoorTab
import Derived.Test.YtpikgebfeleajaaGreatDoorClose
import Derived.Test.YtpikgebfeleajaaGreatDoorStr4
import Derived.Lib.SmallJoins
import Derived.Test.YtpikgebfeleajaaGreatDoorIsE
import Derived.Deep.Slices
import Derived.Deep.Fields
import Derived.Test.YtpikgebfeleajaaGreatDoorBoL
namespace Go.Proofs.YtpikgebfeleajaaGreatDoor
section
open Go.ChangeShapes Go.WideShapes Go.ChangeAt Go.RowKit Go.ChangeMaps
set_option linter.unusedVariables false
set_option linter.unusedSimpArgs false

theorem own : ownKnob Tryz.prog.godebug = none := by kernel_rfl
theorem laidOut : laidOutB Tryz.prog = true := by kernel_rfl

section
variable {H : Type} {enc : TypeId × Value → H}
/-- The row's builder: the contract is handed the row's own condition and the world's shape. -/
theorem handed_all {a : Assume} {C : Checked} {os : Os} {f : FuncId} {fn : Func} {s : ChangeSpec} {conds : List PathCond} {apart fresh handsOn again : Bool} {X : World → Array Value → Prop}
    (hX : ∀ (w w' : World) (args : Array Value), w.heap = w'.heap → X w args → X w' args)
    (own : ownKnob C.prog.godebug = none) (started : os.Started) (noInit : C.prog.inits.idxOf? f = none) (hfn : C.prog.funcs[f]? = some fn)
    (witness : ∃ (w : World) (tape : Tape) (i : Input), w.os = os ∧ (w.forCall tape i).Shaped C.prog ∧ i.vars = [] ∧ Input.okWide C.prog (w.forCall tape i) .any w.heap.size f i ∧
      ((s.pre enc C.prog fn conds apart (w.forCall tape i).memory i.args ∧ X (w.forCall tape i).memory i.args) ∧ sizedMet enc C.prog fn (OpenSpec.ofChange s) apart (w.forCall tape i).memory i.args) ∧ a.holds C.prog (lone (Frame.enter C.prog f i.args .normal) [] (w.forCall tape i)))
    (contract : ∀ (W : World) (base : Nat) (args : Array Value) (ds gs : List (DataW H)) (before : List MemPlace),
      (∀ (j : Nat) t v, fn.params[j]? = some t → args[j]? = some v → Value.okWide C.prog W .any base t v) →
      DataW.Whole enc C.prog fn.params.toList s.vars apart W args.toList ds gs before → X W args → W.ShapedOpen C.prog →
      Calls C.prog f args W fun e W' => ∃ v, e = .returned v ∧ s.post enc C.prog fn apart fresh handsOn again W args v W') :
    ReturnsInHanded a C os f .any (fun w args => (s.pre enc C.prog fn conds apart w args ∧ X w args) ∧ sizedMet enc C.prog fn (OpenSpec.ofChange s) apart w args) (s.post enc C.prog fn apart fresh handsOn again) := by
  refine returnsInHanded_of_calls own started noInit witness ?_
  intro w tape i _ hsh _ hok hpre hholds
  obtain ⟨_, _, _, fn', hfn', _, _, _, _, hval⟩ := hok
  have e : fn' = fn := Option.some.inj (hfn'.symm.trans hfn)
  subst e
  obtain ⟨⟨⟨ds, gs, before, hw, hc⟩, hx⟩, hz⟩ := hpre
  have hw' := DataW.Whole.of_heap (w' := w.forCall tape i) (by rfl) hw
  refine (contract (w.forCall tape i) w.heap.size i.args ds gs before hval hw' (hX _ _ _ (by rfl) hx) hsh).mono fun e W' ⟨v, he, hp⟩ => ?_
  subst he
  exact ChangeSpec.post_blind hp

theorem trod_ifc {P : Program} {w : World} {base : Nat} {sp : Nat → Bool} {held : Bool} {fuel : Nat} {t : TypeId} {cs : List Value} {nm : String} {d : DataW H} {p : List MemPlace} {ms : Array (String × TypeId)}
    (ht : P.underlying t = some (.interface ms)) (h : DataW.trod enc P w base sp held fuel t cs = some (.iface nm d, p)) : ∃ u v, cs = [.iface u v] := by
  cases fuel with
  | zero => simp [DataW.trod] at h
  | succ n =>
    rcases cs with _ | ⟨a, _ | ⟨b, r⟩⟩
    · simp [DataW.trod, ht] at h
    · cases a
      case iface u v => exact ⟨u, v, rfl⟩
      all_goals simp [DataW.trod, ht] at h
    · simp [DataW.trod, ht] at h
theorem trod_str {P : Program} {w : World} {base : Nat} {sp : Nat → Bool} {held : Bool} {fuel : Nat} {t : TypeId} (ht : P.underlying t = some .string) {cs : List Value} {y : DataW H × List MemPlace} {l : List UInt8}
    (h : DataW.trod enc P w base sp held fuel t cs = some y) (hy : y.1 = .lit (.string l)) : cs = [.string ⟨l.toArray⟩] := by
  cases fuel with
  | zero => simp [DataW.trod] at h
  | succ n =>
    rcases cs with _ | ⟨a, _ | ⟨b, r⟩⟩
    · simp [DataW.trod, ht] at h
    · cases a
      case string s =>
        simp only [DataW.trod, ht] at h
        split at h
        · injection h with h
          subst h
          simp only [DataW.lit.injEq, Lit.string.injEq] at hy
          rw [bytes_of hy]
        · cases h
      all_goals simp [DataW.trod, ht] at h
    · simp [DataW.trod, ht] at h
end

theorem tPow : (Tryz.prog.globals[5]?).map (·.type) = some 177 := by kernel_rfl
theorem dPow : (Rows.laid_internal_strconv_uint64pow10 : DataW Unit) = Lib.tabData .u64 Lib.pow10Tab := rfl
theorem pow_of {W : World} {l : List (String × DataW Unit)} (h : laidMet Tryz.prog l W) (hk : ("internal/strconv.uint64pow10", Rows.laid_internal_strconv_uint64pow10) ∈ l) : Pow W := by
  obtain ⟨g, t, cs, fuel, p, hg, ht, hd, hh⟩ := laid_heap h hk
  obtain rfl := Option.some.inj (gPow.symm.trans hg)
  obtain rfl := Option.some.inj (tPow.symm.trans ht)
  rw [dPow] at hd
  have e := Lib.cells_of_tab Tryz.underlying177 Tryz.underlying84 (by kernel_rfl) (by kernel_rfl) hd
  have hcs : cs = powArr := by
    rw [show cs = cs.toList.toArray from rfl, e]
    rfl
  obtain ⟨t', ht'⟩ := hh (by rw [hcs]; exact Nat.zero_lt_succ _)
  exact ⟨t', by rw [← hcs]; exact ht'⟩
theorem gSyn : Tryz.prog.globalNamed "strconv.ErrSyntax" = some 6 := by kernel_rfl
theorem gRng : Tryz.prog.globalNamed "strconv.ErrRange" = some 7 := by kernel_rfl
theorem tSyn : (Tryz.prog.globals[6]?).map (·.type) = some 77 := by kernel_rfl
theorem tRng : (Tryz.prog.globals[7]?).map (·.type) = some 77 := by kernel_rfl
theorem errs_of {W : World} {l : List (String × DataW Unit)} (h : laidMet Tryz.prog l W) (h1 : ("strconv.ErrSyntax", Rows.laid_strconv_ErrSyntax) ∈ l) (h2 : ("strconv.ErrRange", Rows.laid_strconv_ErrRange) ∈ l) : Errs W := by
  constructor
  · obtain ⟨g, t, cs, fuel, p, hg, ht, hd, hh⟩ := laid_heap h h1
    obtain rfl := Option.some.inj (gSyn.symm.trans hg)
    obtain rfl := Option.some.inj (tSyn.symm.trans ht)
    obtain ⟨u, v, e⟩ := trod_ifc Tryz.underlying77 hd
    have hcs : cs = #[.iface u v] := by rw [show cs = cs.toList.toArray from rfl, e]
    obtain ⟨t', ht'⟩ := hh (by rw [hcs]; exact Nat.zero_lt_succ _)
    exact ⟨t', u, v, by rw [← hcs]; exact ht'⟩
  · obtain ⟨g, t, cs, fuel, p, hg, ht, hd, hh⟩ := laid_heap h h2
    obtain rfl := Option.some.inj (gRng.symm.trans hg)
    obtain rfl := Option.some.inj (tRng.symm.trans ht)
    obtain ⟨u, v, e⟩ := trod_ifc Tryz.underlying77 hd
    have hcs : cs = #[.iface u v] := by rw [show cs = cs.toList.toArray from rfl, e]
    obtain ⟨t', ht'⟩ := hh (by rw [hcs]; exact Nat.zero_lt_succ _)
    exact ⟨t', u, v, by rw [← hcs]; exact ht'⟩
end
end Go.Proofs.YtpikgebfeleajaaGreatDoor
namespace Go.Proofs.YtpikgebfeleajaaGreatDoor.I
section
open Go.ChangeShapes Go.WideShapes Go.ChangeAt Go.RowKit Go.ChangeMaps Go.Deep
set_option linter.unusedVariables false
set_option linter.unusedSimpArgs false

theorem gForms : Tryz.prog.globalNamed "carryall/isa.forms" = some 4 := by kernel_rfl
theorem tForms : (Tryz.prog.globals[4]?).map (·.type) = some 159 := by kernel_rfl
theorem dForms : (Rows.laid_carryall_isa_forms : DataW Unit) = .agg (formsL.map fun x => .agg [.lit (.string x.1), .lit (.int .i64 x.2.1), .lit (.int .i64 x.2.2.1), .lit (.bool x.2.2.2)]) := rfl
section
variable {H : Type} {enc : TypeId × Value → H} {W : World} {sp : Nat → Bool} {held : Bool}
set_option maxRecDepth 100000 in
theorem trod_form : ∀ m c y (x : List UInt8 × Int × Int × Bool), DataW.trod enc Tryz.prog W 0 sp held m 133 c = some y → y.1 = .agg [.lit (.string x.1), .lit (.int .i64 x.2.1), .lit (.int .i64 x.2.2.1), .lit (.bool x.2.2.2)] → c = cellsF x := by
  intro m c y x h hy
  obtain ⟨xs, n, rfl, rfl, hlen, hxl, hf⟩ := DataW.trod_struct Tryz.underlying133 h
  rw [show Tryz.prog.cellsOf 133 = 4 from by kernel_rfl] at hlen
  match c, hlen with
  | [c0, c1, c2, c3], _ =>
    match xs, hxl with
    | [y0, y1, y2, y3], _ =>
      have g0 := hf 0 _ rfl
      have g1 := hf 1 _ rfl
      have g2 := hf 2 _ rfl
      have g3 := hf 3 _ rfl
      simp only [show Tryz.prog.cellsOf 9 = 1 from by kernel_rfl, show Tryz.prog.cellsOf 3 = 1 from by kernel_rfl, show Tryz.prog.cellsOf 4 = 1 from by kernel_rfl, List.drop_zero, List.drop_succ_cons, List.take_succ_cons, List.take_zero, List.getElem?_cons_zero, List.getElem?_cons_succ] at g0 g1 g2 g3
      obtain ⟨s, e0, e0', _⟩ := DataW.trod_string Tryz.underlying9 g0
      obtain ⟨k, e1, e1', _⟩ := DataW.trod_int Tryz.underlying3 g1
      obtain ⟨l, e2, e2', _⟩ := DataW.trod_int Tryz.underlying3 g2
      obtain ⟨b, e3, e3'⟩ := DataW.trod_bool Tryz.underlying4 g3
      subst e0' e1' e2' e3'
      simp only [List.map_cons, List.map_nil, DataW.agg.injEq, List.cons.injEq, DataW.lit.injEq, Lit.string.injEq, Lit.int.injEq, Lit.bool.injEq, true_and, and_true] at hy
      injection e0 with e0 _
      injection e1 with e1 _
      injection e2 with e2 _
      injection e3 with e3 _
      obtain ⟨h0, h1, h2, h3⟩ := hy
      rw [e0, e1, e2, e3, h1, h2, h3, bytes_of h0]
      rfl
end
theorem laid_of {W : World} {l : List (String × DataW Unit)} (h : laidMet Tryz.prog l W) (hk : ("carryall/isa.forms", Rows.laid_carryall_isa_forms) ∈ l) : Laid W := by
  constructor
  obtain ⟨g, t, cs, fuel, p, hg, ht, hd, hh⟩ := laid_heap h hk
  obtain rfl := Option.some.inj (gForms.symm.trans hg)
  obtain rfl := Option.some.inj (tForms.symm.trans ht)
  rw [dForms] at hd
  have e := arr_cells _ cellsF 4 (fun _ => rfl) Tryz.underlying159 (by kernel_rfl) (by kernel_rfl) trod_form formsL hd
  have hcs : cs = fArr := by rw [show cs = cs.toList.toArray from rfl, e]; rfl
  obtain ⟨t', ht'⟩ := hh (by rw [hcs]; exact Nat.zero_lt_succ _)
  exact ⟨t', by rw [← hcs]; exact ht'⟩
theorem ground_of {W : World} {l : List (String × DataW Unit)} (h : laidMet Tryz.prog l W) (hs : W.ShapedOpen Tryz.prog) (hk : ("carryall/isa.forms", Rows.laid_carryall_isa_forms) ∈ l) (hp : ("internal/strconv.uint64pow10", Rows.laid_internal_strconv_uint64pow10) ∈ l) : Ground W :=
  ⟨laid_of h hk, pow_of h hp, maxL_of hs⟩

section
variable {H : Type} {enc : TypeId × Value → H} {w : World} {base : Nat} {spare : Nat → Bool} {held : Bool}
def InI (x : Ins) : Prop := (-9223372036854775808 ≤ x.op ∧ x.op ≤ 9223372036854775807) ∧ (-9223372036854775808 ≤ x.a ∧ x.a ≤ 9223372036854775807) ∧ (-9223372036854775808 ≤ x.b ∧ x.b ≤ 9223372036854775807) ∧ (-9223372036854775808 ≤ x.imm ∧ x.imm ≤ 9223372036854775807)
set_option maxRecDepth 100000 in
theorem open_ins {v : Value} {d : DataW H} {p : List MemPlace} {r : Reach} {b0 : Nat} (hv : Value.okWide Tryz.prog w r b0 86 v) (h : DataW.Trod enc Tryz.prog w base spare held 86 v d p) :
    ∃ o a b c : Int, v = .agg #[.int .i64 o, .int .i64 a, .int .i64 b, .int .i64 c] ∧ InI ⟨o, a, b, c⟩ := by
  obtain ⟨v0, v1, v2, v3, y0, y1, y2, y3, n, rfl, _, _, h0, h1, h2, h3⟩ := Go.Joins.open_agg4 Tryz.underlying86 (by kernel_rfl) (by kernel_rfl) hv h
  obtain ⟨a0, e0, _, w0⟩ := DataW.trod_int Tryz.underlying3 h0
  obtain ⟨a1, e1, _, w1⟩ := DataW.trod_int Tryz.underlying3 h1
  obtain ⟨a2, e2, _, w2⟩ := DataW.trod_int Tryz.underlying3 h2
  obtain ⟨a3, e3, _, w3⟩ := DataW.trod_int Tryz.underlying3 h3
  injection e0 with e0 _; injection e1 with e1 _; injection e2 with e2 _; injection e3 with e3 _
  have r0 : -9223372036854775808 ≤ a0 ∧ a0 ≤ 9223372036854775807 := by simpa [Lit.wf, IntKind.min, IntKind.max, IntKind.signed, IntKind.bits] using w0
  have r1 : -9223372036854775808 ≤ a1 ∧ a1 ≤ 9223372036854775807 := by simpa [Lit.wf, IntKind.min, IntKind.max, IntKind.signed, IntKind.bits] using w1
  have r2 : -9223372036854775808 ≤ a2 ∧ a2 ≤ 9223372036854775807 := by simpa [Lit.wf, IntKind.min, IntKind.max, IntKind.signed, IntKind.bits] using w2
  have r3 : -9223372036854775808 ≤ a3 ∧ a3 ≤ 9223372036854775807 := by simpa [Lit.wf, IntKind.min, IntKind.max, IntKind.signed, IntKind.bits] using w3
  exact ⟨a0, a1, a2, a3, by rw [e0, e1, e2, e3], ⟨r0, r1, r2, r3⟩⟩
end
end
end Go.Proofs.YtpikgebfeleajaaGreatDoor.I
namespace Go.Proofs.YtpikgebfeleajaaGreatDoor
section
open Go.ChangeShapes Go.WideShapes Go.ChangeAt Go.RowKit Go.ChangeMaps Go.Deep
set_option linter.unusedVariables false
set_option linter.unusedSimpArgs false

theorem cellsOf_int : Tryz.prog.cellsOf 3 = 1 := by kernel_rfl
theorem cellsOf_u32 : Tryz.prog.cellsOf 41 = 1 := by kernel_rfl
theorem cellsOf_words : Tryz.prog.cellsOf 22 = 1 := by kernel_rfl
theorem cellsOf_boot : Tryz.prog.cellsOf 24 = 5 := by kernel_rfl
theorem array5 {α : Type} {cs : Array α} (h : cs.size = 5) : ∃ c0 c1 c2 c3 c4, cs = #[c0, c1, c2, c3, c4] := by
  obtain ⟨l⟩ := cs
  match l, h with
  | [c0, c1, c2, c3, c4], _ => exact ⟨c0, c1, c2, c3, c4, rfl⟩

section
variable {H : Type} {enc : TypeId × Value → H} {w : World}
/-- A slice of words that came in. -/
theorem open_wordsB {fuel : Nat} {cs : List Value} {y : DataW H × List MemPlace} (h : DataW.trod enc Tryz.prog w 0 (fun _ => true) true fuel 22 cs = some y) :
    ∃ (A : Option Addr) (c : Nat) (l : List Int), cs = [.slice A l.length c] ∧ WordsAt w A l ∧ l.length ≤ maxLen ∧ Words l := by
  rcases open_slice1 Tryz.underlying22 cellsOf_u32 h with ⟨rfl, _⟩ | ⟨a, len, cap, m, n, V, D, Pl, rfl, _, hl, hm, hmm, _, hi⟩
  · exact ⟨none, 0, [], rfl, RowsAt.nil _ _ _, Nat.zero_le _, fun i x hx => by simp at hx⟩
  · have hmc : m = cap := by simpa using hmm
    have hel : ∀ i, i < len → ∃ x : Int, w.cell? (a.add i) = some (.int .u32 x) ∧ 0 ≤ x ∧ x ≤ 4294967295 := fun i hil => by
      obtain ⟨h1, h2⟩ := hi i (by omega)
      obtain ⟨x, e0, _, wf⟩ := DataW.trod_int Tryz.underlying41 h2
      injection e0 with e0 _
      have hx : 0 ≤ x ∧ x ≤ 4294967295 := by simpa [Lit.wf, IntKind.min, IntKind.max, IntKind.signed, IntKind.bits] using wf
      exact ⟨x, by rw [h1, e0], hx⟩
    have hex : ∃ f : Nat → Int, ∀ i, i < len → w.cell? (a.add i) = some (.int .u32 (f i)) ∧ 0 ≤ f i ∧ f i ≤ 4294967295 := by
      refine ⟨fun i => if h : i < len then Classical.choose (hel i h) else 0, fun i hil => ?_⟩
      simp only [dif_pos hil]
      exact Classical.choose_spec (hel i hil)
    obtain ⟨f, hf'⟩ := hex
    have hget : ∀ i x, ((List.range len).map f)[i]? = some x → i < len ∧ x = f i := fun i x hx => by
      have hil : i < len := by
        have := (List.getElem?_eq_some_iff.1 hx).1
        simpa using this
      rw [List.getElem?_map, List.getElem?_range hil] at hx
      exact ⟨hil, by simpa using hx.symm⟩
    refine ⟨some a, cap, (List.range len).map f, by simp, fun i r hr => ?_, by simp; omega, fun i x hx => ?_⟩
    · rw [List.getElem?_map] at hr
      obtain ⟨x, hx, rfl⟩ := Option.map_eq_some_iff.1 hr
      obtain ⟨hil, rfl⟩ := hget i x hx
      have h0 := (hf' i hil).1
      have hsp : a.spot = none := by
        have h00 := (hf' 0 (by omega)).1
        have e : a.add 0 = a := by simp [Addr.add]
        rw [e] at h00
        exact spot_of_cell h00
      obtain ⟨b, off, sp⟩ := a
      cases sp with
      | some s => cases hsp
      | none =>
        rw [add_eq] at h0
        refine ⟨b, off, rfl, ?_, fun j v hv => ?_⟩
        · exact block_lt_of_cell (w := w) (a := ⟨b, off + i, none⟩) h0
        · cases j with
          | zero => simp [uC] at hv; subst hv; simpa using h0
          | succ j => simp [uC] at hv
    · obtain ⟨hil, rfl⟩ := hget i x hx
      exact (hf' i hil).2

set_option maxRecDepth 100000 in
theorem open_boot {r : Reach} {b0 : Nat} {v : Value} {d : DataW H} {p : List MemPlace} (hv : Value.okWide Tryz.prog w r b0 24 v)
    (h : DataW.Trod enc Tryz.prog w 0 (fun _ => true) true 24 v d p) : ∃ (c f pr q : Int) (A : Option Addr) (cap : Nat) (ws : List Int), v = bootV c f pr q A ws.length cap ∧ WordsAt w A ws ∧ ws.length ≤ maxLen ∧ Words ws := by
  obtain ⟨cs, rfl, hsz⟩ := okWide_struct Tryz.underlying24 hv
  rw [cellsOf_boot] at hsz
  obtain ⟨c0, c1, c2, c3, c4, rfl⟩ := array5 hsz
  obtain ⟨fuel, hf⟩ := h
  obtain ⟨xs, n, _, _, _, hxl, hf⟩ := DataW.trod_struct Tryz.underlying24 hf
  match xs, hxl with
  | [y0, y1, y2, y3, y4], _ =>
    have h0 := hf 0 _ rfl
    have h1 := hf 1 _ rfl
    have h2 := hf 2 _ rfl
    have h3 := hf 3 _ rfl
    have h4 := hf 4 _ rfl
    simp only [Value.cells, cellsOf_int, cellsOf_words, List.drop_zero, List.drop_succ_cons, List.take_succ_cons, List.take_zero, List.getElem?_cons_zero, List.getElem?_cons_succ] at h0 h1 h2 h3 h4
    obtain ⟨c, e0, _, _⟩ := DataW.trod_int Tryz.underlying3 h0
    obtain ⟨f, e1, _, _⟩ := DataW.trod_int Tryz.underlying3 h1
    obtain ⟨pr, e2, _, _⟩ := DataW.trod_int Tryz.underlying3 h2
    obtain ⟨q, e3, _, _⟩ := DataW.trod_int Tryz.underlying3 h3
    obtain ⟨A, cap, ws, e4, hA, hl, hw⟩ := open_wordsB h4
    injection e0 with e0 _; injection e1 with e1 _; injection e2 with e2 _; injection e3 with e3 _; injection e4 with e4 _
    subst e0 e1 e2 e3 e4
    exact ⟨c, f, pr, q, A, cap, ws, rfl, hA, hl, hw⟩
end

set_option maxRecDepth 100000 in
theorem words_range {ws : List Int} (h : Words ws) : ∀ x ∈ ws, I.RangeW x := fun x hx => by
  obtain ⟨i, hi, e⟩ := List.getElem_of_mem hx
  have := h i x (by rw [List.getElem?_eq_getElem hi, e])
  unfold I.RangeW
  omega
def wordsBL : List (List UInt8) := [[99, 111, 114, 101, 115], [102, 114, 97, 109, 101, 115], [112, 114, 111, 99, 115], [112, 105, 112, 101]]
theorem gBW : Tryz.prog.globalNamed "carryall/boot.words" = some 0 := by kernel_rfl
theorem tBW : (Tryz.prog.globals[0]?).map (·.type) = some 51 := by kernel_rfl
theorem dBW : (Rows.laid_carryall_boot_words : DataW Unit) = .agg (wordsBL.map fun x => .lit (.string x)) := rfl
section
variable {H : Type} {enc : TypeId × Value → H} {W : World} {sp : Nat → Bool} {held : Bool}
theorem trod_wB : ∀ m c y (x : List UInt8), DataW.trod enc Tryz.prog W 0 sp held m 9 c = some y → y.1 = .lit (.string x) → c = [.string ⟨x.toArray⟩] := by
  intro m c y x h hy
  obtain ⟨s, e0, e0', _⟩ := DataW.trod_string Tryz.underlying9 h
  subst e0'
  simp only [DataW.lit.injEq, Lit.string.injEq] at hy
  rw [e0, bytes_of hy]
end
theorem bw_of {W : World} {l : List (String × DataW Unit)} (h : laidMet Tryz.prog l W) (hk : ("carryall/boot.words", Rows.laid_carryall_boot_words) ∈ l) : ∃ t, Blk W 0 t #[.string ⟨#[99, 111, 114, 101, 115]⟩, .string ⟨#[102, 114, 97, 109, 101, 115]⟩, .string ⟨#[112, 114, 111, 99, 115]⟩, .string ⟨#[112, 105, 112, 101]⟩] := by
  obtain ⟨g, t, cs, fuel, p, hg, ht, hd, hh⟩ := laid_heap h hk
  obtain rfl := Option.some.inj (gBW.symm.trans hg)
  obtain rfl := Option.some.inj (tBW.symm.trans ht)
  rw [dBW] at hd
  have e := arr_cells _ (fun x => [Value.string ⟨x.toArray⟩]) 1 (fun _ => rfl) Tryz.underlying51 (by kernel_rfl) (by kernel_rfl) trod_wB wordsBL hd
  have hcs : cs = #[.string ⟨#[99, 111, 114, 101, 115]⟩, .string ⟨#[102, 114, 97, 109, 101, 115]⟩, .string ⟨#[112, 114, 111, 99, 115]⟩, .string ⟨#[112, 105, 112, 101]⟩] := by rw [show cs = cs.toList.toArray from rfl, e]; rfl
  obtain ⟨t', ht'⟩ := hh (by rw [hcs]; exact Nat.zero_lt_succ _)
  exact ⟨t', by rw [← hcs]; exact ht'⟩
theorem ground_of {W : World} {l : List (String × DataW Unit)} (h : laidMet Tryz.prog l W) (hs : W.ShapedOpen Tryz.prog) (hb : ("carryall/boot.words", Rows.laid_carryall_boot_words) ∈ l) (hk : ("carryall/isa.forms", Rows.laid_carryall_isa_forms) ∈ l) (hp : ("internal/strconv.uint64pow10", Rows.laid_internal_strconv_uint64pow10) ∈ l)
    (h1 : ("strconv.ErrSyntax", Rows.laid_strconv_ErrSyntax) ∈ l) (h2 : ("strconv.ErrRange", Rows.laid_strconv_ErrRange) ∈ l) : GB W :=
  ⟨bw_of h hb, I.ground_of h hs hk hp, errs_of h h1 h2⟩
end
end Go.Proofs.YtpikgebfeleajaaGreatDoor
