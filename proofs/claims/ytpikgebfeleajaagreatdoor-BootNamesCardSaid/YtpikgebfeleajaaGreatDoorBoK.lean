/-
  What the rows of this chapter say of the tables, and of boots that come in, as facts on the world. No other condition.
-/
import Derived.Deep.Slices
import Derived.Deep.Fields
import Derived.Test.YtpikgebfeleajaaGreatDoorClose
import Derived.Test.YtpikgebfeleajaaGreatDoorCard
import Derived.Test.YtpikgebfeleajaaGreatDoorIsK
import Derived.Test.YtpikgebfeleajaaGreatDoorBoL
namespace Go.Proofs.YtpikgebfeleajaaGreatDoor
open Go.ChangeShapes Go.WideShapes Go.ChangeAt Go.RowKit Go.ChangeMaps Go.Deep
set_option linter.unusedVariables false
set_option linter.unusedSimpArgs false

theorem cellsOf_int : Tryz.prog.cellsOf 3 = 1 := by kernel_rfl
theorem cellsOf_u32 : Tryz.prog.cellsOf 41 = 1 := by kernel_rfl
theorem cellsOf_words : Tryz.prog.cellsOf 22 = 1 := by kernel_rfl
theorem cellsOf_boot : Tryz.prog.cellsOf 24 = 5 := by kernel_rfl
theorem array5 {α : Type} {cs : Array α} (h : cs.size = 5) : ∃ c0 c1 c2 c3 c4, cs = #[c0, c1, c2, c3, c4] := by
  obtain ⟨l⟩ := cs
  match l, h with
  | [c0, c1, c2, c3, c4], _ => exact ⟨c0, c1, c2, c3, c4, rfl⟩

section
variable {H : Type} {enc : TypeId × Value → H} {w : World}
/-- A slice of words that came in. -/
theorem open_wordsB {fuel : Nat} {cs : List Value} {y : DataW H × List MemPlace} (h : DataW.trod enc Tryz.prog w 0 (fun _ => true) true fuel 22 cs = some y) :
    ∃ (A : Option Addr) (c : Nat) (l : List Int), cs = [.slice A l.length c] ∧ WordsAt w A l ∧ l.length ≤ maxLen ∧ Words l := by
  rcases open_slice1 Tryz.underlying22 cellsOf_u32 h with ⟨rfl, _⟩ | ⟨a, len, cap, m, n, V, D, Pl, rfl, _, hl, hm, hmm, _, hi⟩
  · exact ⟨none, 0, [], rfl, RowsAt.nil _ _ _, Nat.zero_le _, fun i x hx => by simp at hx⟩
  · have hmc : m = cap := by simpa using hmm
    have hel : ∀ i, i < len → ∃ x : Int, w.cell? (a.add i) = some (.int .u32 x) ∧ 0 ≤ x ∧ x ≤ 4294967295 := fun i hil => by
      obtain ⟨h1, h2⟩ := hi i (by omega)
      obtain ⟨x, e0, _, wf⟩ := DataW.trod_int Tryz.underlying41 h2
      injection e0 with e0 _
      have hx : 0 ≤ x ∧ x ≤ 4294967295 := by simpa [Lit.wf, IntKind.min, IntKind.max, IntKind.signed, IntKind.bits] using wf
      exact ⟨x, by rw [h1, e0], hx⟩
    have hex : ∃ f : Nat → Int, ∀ i, i < len → w.cell? (a.add i) = some (.int .u32 (f i)) ∧ 0 ≤ f i ∧ f i ≤ 4294967295 := by
      refine ⟨fun i => if h : i < len then Classical.choose (hel i h) else 0, fun i hil => ?_⟩
      simp only [dif_pos hil]
      exact Classical.choose_spec (hel i hil)
    obtain ⟨f, hf'⟩ := hex
    have hget : ∀ i x, ((List.range len).map f)[i]? = some x → i < len ∧ x = f i := fun i x hx => by
      have hil : i < len := by
        have := (List.getElem?_eq_some_iff.1 hx).1
        simpa using this
      rw [List.getElem?_map, List.getElem?_range hil] at hx
      exact ⟨hil, by simpa using hx.symm⟩
    refine ⟨some a, cap, (List.range len).map f, by simp, fun i r hr => ?_, by simp; omega, fun i x hx => ?_⟩
    · rw [List.getElem?_map] at hr
      obtain ⟨x, hx, rfl⟩ := Option.map_eq_some_iff.1 hr
      obtain ⟨hil, rfl⟩ := hget i x hx
      have h0 := (hf' i hil).1
      have hsp : a.spot = none := by
        have h00 := (hf' 0 (by omega)).1
        have e : a.add 0 = a := by simp [Addr.add]
        rw [e] at h00
        exact spot_of_cell h00
      obtain ⟨b, off, sp⟩ := a
      cases sp with
      | some s => cases hsp
      | none =>
        rw [add_eq] at h0
        refine ⟨b, off, rfl, ?_, fun j v hv => ?_⟩
        · exact block_lt_of_cell (w := w) (a := ⟨b, off + i, none⟩) h0
        · cases j with
          | zero => simp [uC] at hv; subst hv; simpa using h0
          | succ j => simp [uC] at hv
    · obtain ⟨hil, rfl⟩ := hget i x hx
      exact (hf' i hil).2

set_option maxRecDepth 100000 in
theorem open_boot {r : Reach} {b0 : Nat} {v : Value} {d : DataW H} {p : List MemPlace} (hv : Value.okWide Tryz.prog w r b0 24 v)
    (h : DataW.Trod enc Tryz.prog w 0 (fun _ => true) true 24 v d p) : ∃ (c f pr q : Int) (A : Option Addr) (cap : Nat) (ws : List Int), v = bootV c f pr q A ws.length cap ∧ WordsAt w A ws ∧ ws.length ≤ maxLen ∧ Words ws := by
  obtain ⟨cs, rfl, hsz⟩ := okWide_struct Tryz.underlying24 hv
  rw [cellsOf_boot] at hsz
  obtain ⟨c0, c1, c2, c3, c4, rfl⟩ := array5 hsz
  obtain ⟨fuel, hf⟩ := h
  obtain ⟨xs, n, _, _, _, hxl, hf⟩ := DataW.trod_struct Tryz.underlying24 hf
  match xs, hxl with
  | [y0, y1, y2, y3, y4], _ =>
    have h0 := hf 0 _ rfl
    have h1 := hf 1 _ rfl
    have h2 := hf 2 _ rfl
    have h3 := hf 3 _ rfl
    have h4 := hf 4 _ rfl
    simp only [Value.cells, cellsOf_int, cellsOf_words, List.drop_zero, List.drop_succ_cons, List.take_succ_cons, List.take_zero, List.getElem?_cons_zero, List.getElem?_cons_succ] at h0 h1 h2 h3 h4
    obtain ⟨c, e0, _, _⟩ := DataW.trod_int Tryz.underlying3 h0
    obtain ⟨f, e1, _, _⟩ := DataW.trod_int Tryz.underlying3 h1
    obtain ⟨pr, e2, _, _⟩ := DataW.trod_int Tryz.underlying3 h2
    obtain ⟨q, e3, _, _⟩ := DataW.trod_int Tryz.underlying3 h3
    obtain ⟨A, cap, ws, e4, hA, hl, hw⟩ := open_wordsB h4
    injection e0 with e0 _; injection e1 with e1 _; injection e2 with e2 _; injection e3 with e3 _; injection e4 with e4 _
    subst e0 e1 e2 e3 e4
    exact ⟨c, f, pr, q, A, cap, ws, rfl, hA, hl, hw⟩
end

set_option maxRecDepth 100000 in
theorem words_range {ws : List Int} (h : Words ws) : ∀ x ∈ ws, I.RangeW x := fun x hx => by
  obtain ⟨i, hi, e⟩ := List.getElem_of_mem hx
  have := h i x (by rw [List.getElem?_eq_getElem hi, e])
  unfold I.RangeW
  omega
def wordsBL : List (List UInt8) := [[99, 111, 114, 101, 115], [102, 114, 97, 109, 101, 115], [112, 114, 111, 99, 115], [112, 105, 112, 101]]
theorem gBW : Tryz.prog.globalNamed "carryall/boot.words" = some 0 := by kernel_rfl
theorem tBW : (Tryz.prog.globals[0]?).map (·.type) = some 51 := by kernel_rfl
theorem dBW : (Rows.laid_carryall_boot_words : DataW Unit) = .agg (wordsBL.map fun x => .lit (.string x)) := rfl
section
variable {H : Type} {enc : TypeId × Value → H} {W : World} {sp : Nat → Bool} {held : Bool}
theorem trod_wB : ∀ m c y (x : List UInt8), DataW.trod enc Tryz.prog W 0 sp held m 9 c = some y → y.1 = .lit (.string x) → c = [.string ⟨x.toArray⟩] := by
  intro m c y x h hy
  obtain ⟨s, e0, e0', _⟩ := DataW.trod_string Tryz.underlying9 h
  subst e0'
  simp only [DataW.lit.injEq, Lit.string.injEq] at hy
  rw [e0, bytes_of hy]
end
theorem bw_of {W : World} {l : List (String × DataW Unit)} (h : laidMet Tryz.prog l W) (hk : ("carryall/boot.words", Rows.laid_carryall_boot_words) ∈ l) : ∃ t, Blk W 0 t #[.string ⟨#[99, 111, 114, 101, 115]⟩, .string ⟨#[102, 114, 97, 109, 101, 115]⟩, .string ⟨#[112, 114, 111, 99, 115]⟩, .string ⟨#[112, 105, 112, 101]⟩] := by
  obtain ⟨g, t, cs, fuel, p, hg, ht, hd, hh⟩ := laid_heap h hk
  obtain rfl := Option.some.inj (gBW.symm.trans hg)
  obtain rfl := Option.some.inj (tBW.symm.trans ht)
  rw [dBW] at hd
  have e := arr_cells _ (fun x => [Value.string ⟨x.toArray⟩]) 1 (fun _ => rfl) Tryz.underlying51 (by kernel_rfl) (by kernel_rfl) trod_wB wordsBL hd
  have hcs : cs = #[.string ⟨#[99, 111, 114, 101, 115]⟩, .string ⟨#[102, 114, 97, 109, 101, 115]⟩, .string ⟨#[112, 114, 111, 99, 115]⟩, .string ⟨#[112, 105, 112, 101]⟩] := by rw [show cs = cs.toList.toArray from rfl, e]; rfl
  obtain ⟨t', ht'⟩ := hh (by rw [hcs]; exact Nat.zero_lt_succ _)
  exact ⟨t', by rw [← hcs]; exact ht'⟩
theorem ground_of {W : World} {l : List (String × DataW Unit)} (h : laidMet Tryz.prog l W) (hs : W.ShapedOpen Tryz.prog) (hb : ("carryall/boot.words", Rows.laid_carryall_boot_words) ∈ l) (hk : ("carryall/isa.forms", Rows.laid_carryall_isa_forms) ∈ l) (hp : ("internal/strconv.uint64pow10", Rows.laid_internal_strconv_uint64pow10) ∈ l)
    (h1 : ("strconv.ErrSyntax", Rows.laid_strconv_ErrSyntax) ∈ l) (h2 : ("strconv.ErrRange", Rows.laid_strconv_ErrRange) ∈ l) : GB W :=
  ⟨bw_of h hb, I.ground_of h hs hk hp, errs_of h h1 h2⟩
end Go.Proofs.YtpikgebfeleajaaGreatDoor
