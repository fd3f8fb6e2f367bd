/-
  The law BootPages answers true for every input: the pages of a program are what the document says. No condition.
-/
import Derived.Deep.Slices
import Derived.Deep.Fields
import Derived.Test.YtpikgebfeleajaaClose
import Derived.Test.YtpikgebfeleajaaBoot8
namespace Go.Proofs.Ytpikgebfeleajaa.lawBootPages
open Go.ChangeShapes Go.WideShapes Go.ChangeAt Go.RowKit Go.Deep
set_option linter.unusedVariables false
set_option linter.unusedSimpArgs false

theorem cellsOf_int : Try.prog.cellsOf 3 = 1 := by kernel_rfl
theorem cellsOf_u32 : Try.prog.cellsOf 41 = 1 := by kernel_rfl
theorem cellsOf_words : Try.prog.cellsOf 22 = 1 := by kernel_rfl
theorem cellsOf_boot : Try.prog.cellsOf 24 = 5 := by kernel_rfl
theorem array5 {α : Type} {cs : Array α} (h : cs.size = 5) : ∃ c0 c1 c2 c3 c4, cs = #[c0, c1, c2, c3, c4] := by
  obtain ⟨l⟩ := cs
  match l, h with
  | [c0, c1, c2, c3, c4], _ => exact ⟨c0, c1, c2, c3, c4, rfl⟩

section
variable {H : Type} {enc : TypeId × Value → H} {w : World}
/-- A slice of words that came in. -/
theorem open_words {fuel : Nat} {cs : List Value} {y : DataW H × List MemPlace} (h : DataW.trod enc Try.prog w 0 (fun _ => true) true fuel 22 cs = some y) :
    ∃ (A : Option Addr) (c : Nat) (l : List Int), cs = [.slice A l.length c] ∧ WordsAt w A l ∧ l.length ≤ maxLen ∧ Words l := by
  rcases open_slice1 Try.underlying22 cellsOf_u32 h with ⟨rfl, _⟩ | ⟨a, len, cap, m, n, V, D, Pl, rfl, _, hl, hm, hmm, _, hi⟩
  · exact ⟨none, 0, [], rfl, RowsAt.nil _ _ _, Nat.zero_le _, fun i x hx => by simp at hx⟩
  · have hmc : m = cap := by simpa using hmm
    have hel : ∀ i, i < len → ∃ x : Int, w.cell? (a.add i) = some (.int .u32 x) ∧ 0 ≤ x ∧ x ≤ 4294967295 := fun i hil => by
      obtain ⟨h1, h2⟩ := hi i (by omega)
      obtain ⟨x, e0, _, wf⟩ := DataW.trod_int Try.underlying41 h2
      injection e0 with e0 _
      have hx : 0 ≤ x ∧ x ≤ 4294967295 := by simpa [Lit.wf, IntKind.min, IntKind.max, IntKind.signed, IntKind.bits] using wf
      exact ⟨x, by rw [h1, e0], hx⟩
    have hex : ∃ f : Nat → Int, ∀ i, i < len → w.cell? (a.add i) = some (.int .u32 (f i)) ∧ 0 ≤ f i ∧ f i ≤ 4294967295 := by
      refine ⟨fun i => if h : i < len then Classical.choose (hel i h) else 0, fun i hil => ?_⟩
      simp only [dif_pos hil]
      exact Classical.choose_spec (hel i hil)
    obtain ⟨f, hf'⟩ := hex
    have hget : ∀ i x, ((List.range len).map f)[i]? = some x → i < len ∧ x = f i := fun i x hx => by
      have hil : i < len := by
        have := (List.getElem?_eq_some_iff.1 hx).1
        simpa using this
      rw [List.getElem?_map, List.getElem?_range hil] at hx
      exact ⟨hil, by simpa using hx.symm⟩
    refine ⟨some a, cap, (List.range len).map f, by simp, fun i r hr => ?_, by simp; omega, fun i x hx => ?_⟩
    · rw [List.getElem?_map] at hr
      obtain ⟨x, hx, rfl⟩ := Option.map_eq_some_iff.1 hr
      obtain ⟨hil, rfl⟩ := hget i x hx
      have h0 := (hf' i hil).1
      have hsp : a.spot = none := by
        have h00 := (hf' 0 (by omega)).1
        have e : a.add 0 = a := by simp [Addr.add]
        rw [e] at h00
        exact spot_of_cell h00
      obtain ⟨b, off, sp⟩ := a
      cases sp with
      | some s => cases hsp
      | none =>
        rw [add_eq] at h0
        refine ⟨b, off, rfl, ?_, fun j v hv => ?_⟩
        · exact block_lt_of_cell (w := w) (a := ⟨b, off + i, none⟩) h0
        · cases j with
          | zero => simp [uC] at hv; subst hv; simpa using h0
          | succ j => simp [uC] at hv
    · obtain ⟨hil, rfl⟩ := hget i x hx
      exact (hf' i hil).2

theorem open_boot {r : Reach} {b0 : Nat} {v : Value} {d : DataW H} {p : List MemPlace} (hv : Value.okWide Try.prog w r b0 24 v)
    (h : DataW.Trod enc Try.prog w 0 (fun _ => true) true 24 v d p) : ∃ (c f pr q : Int) (A : Option Addr) (cap : Nat) (ws : List Int), v = bootV c f pr q A ws.length cap ∧ WordsAt w A ws ∧ ws.length ≤ maxLen ∧ Words ws := by
  obtain ⟨cs, rfl, hsz⟩ := okWide_struct Try.underlying24 hv
  rw [cellsOf_boot] at hsz
  obtain ⟨c0, c1, c2, c3, c4, rfl⟩ := array5 hsz
  obtain ⟨fuel, hf⟩ := h
  obtain ⟨xs, n, _, _, _, hxl, hf⟩ := DataW.trod_struct Try.underlying24 hf
  match xs, hxl with
  | [y0, y1, y2, y3, y4], _ =>
    have h0 := hf 0 _ rfl
    have h1 := hf 1 _ rfl
    have h2 := hf 2 _ rfl
    have h3 := hf 3 _ rfl
    have h4 := hf 4 _ rfl
    simp only [Value.cells, cellsOf_int, cellsOf_words, List.drop_zero, List.drop_succ_cons, List.take_succ_cons, List.take_zero, List.getElem?_cons_zero, List.getElem?_cons_succ] at h0 h1 h2 h3 h4
    obtain ⟨c, e0, _, _⟩ := DataW.trod_int Try.underlying3 h0
    obtain ⟨f, e1, _, _⟩ := DataW.trod_int Try.underlying3 h1
    obtain ⟨pr, e2, _, _⟩ := DataW.trod_int Try.underlying3 h2
    obtain ⟨q, e3, _, _⟩ := DataW.trod_int Try.underlying3 h3
    obtain ⟨A, cap, ws, e4, hA, hl, hw⟩ := open_words h4
    injection e0 with e0 _; injection e1 with e1 _; injection e2 with e2 _; injection e3 with e3 _; injection e4 with e4 _
    subst e0 e1 e2 e3 e4
    exact ⟨c, f, pr, q, A, cap, ws, rfl, hA, hl, hw⟩
end

theorem own : ownKnob Try.prog.godebug = none := by kernel_rfl
theorem laidOut : laidOutB Try.prog = true := by kernel_rfl

set_option maxRecDepth 100000 in
theorem lifted (os : Os) (started : os.Started) (H : Type) (enc : TypeId × Value → H) :
    ReturnsInHanded {} Try.checked os 3 .any (Rows.bootPagesSpec.pre6 enc Try.prog Try.f3 Rows.bootPagesRow.domain false) (Rows.bootPagesSpec.post enc Try.prog Try.f3 false true false false) := by
  refine returnsInHanded_of_change (C := Try.checked) own started (by kernel_rfl) Try.func3
    (ChangeSpec.witness6 (enc := enc) (C := Try.checked) false ⟨#[], #[bootV 0 0 0 0 none 0 0, .int .i64 0], []⟩ 8 (by kernel_rfl) (by kernel_rfl) (by kernel_rfl) (by kernel_rfl)) ?_
  intro W base args ds gs before hval0 hW hcnd _
  have hval : ∀ (j : Nat) t v, Try.f3.params[j]? = some t → args[j]? = some v → Value.okWide Try.prog W .any base t v := hval0
  have hW' := hW
  obtain ⟨p, q, hA0, hV, rfl, hfz, hnd⟩ := hW
  have hA : DataW.TrodAll enc Try.prog W 0 (fun _ => true) true Try.f3.params.toList args.toList ds p := hA0
  rw [Try.params3] at hA hval
  obtain ⟨v0, v1, d0, d1, p0, p1, rfl, rfl, rfl, h0, h1⟩ := trodAll_two hA
  obtain ⟨c, f, pr, q, A, cap, ws, rfl, hWA, hl, hw⟩ := open_boot (hval 0 24 v0 rfl rfl) h0
  obtain ⟨n, rfl, e1, e2, wn⟩ := open_int Try.underlying3 (hval 1 3 v1 rfl rfl) h1
  refine (bootLaw_any c f pr q n A cap ws hl hw hWA).mono fun e W' ⟨he, hb⟩ => ?_
  subst he
  exact ⟨_, rfl, law_post (tb := 4) laidOut (by kernel_rfl) rfl rfl Try.underlying4 hW' (fun _ => rfl) hb⟩

theorem holds : Rows.BootPagesSaid :=
  OpenClaim.holds_of_wide 3 Try.f3 rfl rfl rfl rfl rfl rfl rfl ⟨rfl, rfl, rfl, rfl, rfl⟩ rfl rfl rfl rfl rfl (by kernel_rfl) Try.func3 (by kernel_rfl)
    (of_decide_eq_true (by kernel_rfl)) (by unfold Func.isWrapper; first | (rw [if_pos (by decide +kernel)]; kernel_rfl) | (rw [if_neg (by decide +kernel)]; exact ⟨rfl, rfl⟩))
    (fun os started H enc _ => lifted os started H enc)
end Go.Proofs.Ytpikgebfeleajaa.lawBootPages
