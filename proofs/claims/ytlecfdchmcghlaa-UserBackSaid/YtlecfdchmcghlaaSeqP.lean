/-
  A loop over an iterator whose rounds are told what stands at which place: the contract of such an iterator, and the law for its caller. Generic: for any program. No condition.
-/
import Derived.Test.YtlecfdchmcghlaaIter
namespace Go.Proofs.Ytlecfdchmcghlaa
open Go.RowKit Go.Shelf
set_option linter.unusedVariables false

/-- J is turned by no new block, by no turn of what is no cells, and by no turn of a block of the iterator's own (from B on, below C). -/
def PrivP {β : Type} (B C : Nat) (J : β → World → Prop) : Prop :=
  ∀ s W W' row, J s W → W.grownBy W' row → (∀ r, row = some r → B ≤ r ∧ (r < C ∨ ∃ o : Obj, W.heap[r]? = some o ∧ o.isCells = false)) → J s W'
theorem PrivP.alloc {β : Type} {B C : Nat} {J : β → World → Prop} (h : PrivP B C J) {s : β} {W : World} (o : Obj) (hs : J s W) : J s (W.alloc o) := h s W _ none hs (World.grownBy_alloc W o none) (fun r e => by cases e)
theorem PrivP.putObj {β : Type} {B C : Nat} {J : β → World → Prop} (h : PrivP B C J) {s : β} {W : World} {l : Nat} {o : Obj} (o' : Obj) (hs : J s W) (hB : B ≤ l) (hl : W.heap[l]? = some o) (ho : o.isCells = false) : J s (W.putObj l o') :=
  h s W _ (some l) hs (grownBy_putObj' W l o') (fun r e => by cases e; exact ⟨hB, .inr ⟨o, hl, ho⟩⟩)
theorem PrivP.below {β : Type} {B C : Nat} {J : β → World → Prop} (h : PrivP B C J) {s : β} {W W' : World} (hs : J s W) (hb : Below W.heap.size W W') : J s W' := h s W W' none hs (grownBy_below hb) (fun r e => by cases e)
theorem PrivP.setCell {β : Type} {B C : Nat} {J : β → World → Prop} (h : PrivP B C J) {s : β} {W : World} {p : Addr} (u : Value) (hs : J s W) (hB : B ≤ p.block) (hC : p.block < C) : J s (W.setCell p u) :=
  h s W _ (some p.block) hs ⟨rfl, rfl, rfl, by simp [World.setCell], fun k hk hkn => Below.heap_setCell W p u k (fun e => hkn (by rw [e]))⟩ (fun r e => by cases e; exact ⟨hB, .inl hC⟩)
theorem PrivP.from_ {β : Type} {B B' C : Nat} {J : β → World → Prop} (h : PrivP B C J) (hB : B ≤ B') : OwnFrom B' J := fun s W W' row hs hg hr => h s W W' row hs hg (fun r e => ⟨Nat.le_trans hB (hr r e).1, .inr (hr r e).2⟩)

theorem PrivP.of_below {β : Type} {B C : Nat} {J : β → World → Prop} (hB : ∀ s W, J s W → B ≤ W.heap.size) (h : ∀ s W W', J s W → Below B W W' → J s W') : PrivP B C J := fun s W W' row hs hg hr =>
  h s W W' hs ⟨hg.os, hg.tape, hg.output, hg.size, fun k hk => hg.block k (Nat.lt_of_lt_of_le hk (hB s W hs)) (fun e => by have := (hr k e.symm).1; omega)⟩

/-- THE CONTRACT: a round is handed what Mm says of memory; whatever way a round is left, it keeps what Kp says; the iterator's own blocks end below C, where the first round begins. -/
def SeqP {α : Type} (F : Fence) (n : Nat) (P : Program) (g : Nat) (lb : Array Value) (encs : α → Array Value) (Mm : α → World → Prop) (Rr : List α → α → Prop) (Kp : World → World → Prop) (S Sp : List α → Prop) (N l : Nat) (W : World) : Prop :=
  ∀ (J Jx : Nat → List α → World → Prop), (∀ C, PrivP W.heap.size C (J C)) → (∀ C, PrivP W.heap.size C (Jx C)) →
    (∀ C pre x W1, W.heap.size ≤ C → C ≤ W1.heap.size → J C pre W1 → Mm x W1 → Rr pre x → pre.length < N → YieldAt F (n - 1) P l (encs x) W1 fun e W' => Kp W1 W' ∧ ((e = .returned (.bool true) ∧ J C (pre ++ [x]) W') ∨ (e = .returned (.bool false) ∧ Jx C (pre ++ [x]) W'))) →
    (∀ C, J C [] W) → CallsIn F n P g (#[.func (.yield l) #[] #[]] ++ lb) W fun e W' => (∃ v, e = .returned v) ∧ ∃ C, W.heap.size ≤ C ∧ ((∃ xs, S xs ∧ J C xs W') ∨ (∃ pre, Sp pre ∧ Jx C pre W'))

/-- How the body of a round may be left. -/
def leftP {α : Type} (B : Nat) (Kp : World → World → Prop) (I : List α → World → Prop) (Ix : Code → List α → World → Prop) (xs : List α) (W : World) : Exit → Act → World → Prop
  | .normal, _, W' => KeepsFrom B W W' ∧ Kp W W' ∧ I xs W'
  | .ret, _, W' => KeepsFrom B W W' ∧ Kp W W' ∧ Ix .ret xs W'
  | .exit id, _, W' => KeepsFrom B W W' ∧ Kp W W' ∧ Ix (.exit id) xs W'
  | .goto t, _, W' => KeepsFrom B W W' ∧ Kp W W' ∧ Ix (.goto t) xs W'
  | .panic _, _, _ => False
  | .outgrown, _, _ => False

section
variable {F : Fence} {n : Nat} {P : Program} {w : World} {α : Type}

/-- The way out of a round, the record being busy at L, the block for deferred calls at D. -/
theorem out_of_roundP {W W3 : World} {L D : Nat} {r : Loop} (hLD : D ≠ L) (hl : W.heap[L]? = some (.loop r)) (hk : W.heap[D]? = some (.deferred (some []))) {B : Nat} (hB : B ≤ D) (hBL : B ≤ L) (h3 : KeepsFrom B W W3) (jump : Option Code) :
    (Instr.endRound L jump).run P W3 = .ok (.bool jump.isNone) (W3.putObj L (.loop { r with state := if jump.isNone then .ready else .done, pending := jump })) ∧ W3.heap[L]? = some (.loop r) ∧
    (W3.putObj L (.loop { r with state := if jump.isNone then .ready else .done, pending := jump })).heap[L]? = some (.loop { r with state := if jump.isNone then .ready else .done, pending := jump }) ∧
    (W3.putObj L (.loop { r with state := if jump.isNone then .ready else .done, pending := jump })).heap[D]? = some (.deferred (some [])) := by
  have hl3 := h3.same _ _ hBL hl rfl
  have hk3 := h3.same _ _ hB hk rfl
  exact ⟨run_endRound jump hl3, hl3, World.putObj_heap_same (Array.getElem?_eq_some_iff.1 hl3).1, (World.putObj_heap_other hLD).trans hk3⟩

theorem wpIn_rangeFunc_P {g : Operand} {ps : Array Tmp} {assign body : Code} {Q : Exit → Act → World → Prop} {a : Act}
    (hro : F.round = none) (h1 : 1 ≤ n) {gf : Nat} {lb : Array Value} (hg : a.eval g = .func (.func gf) #[] lb) (hFg : F.fn gf) (eg : ∀ args w, (callFunc gf args).run P w = .ok (.enter gf args) w)
    {encs : α → Array Value} {Mm : α → World → Prop} {Rr : List α → α → Prop} {Kp : World → World → Prop} {S Sp : List α → Prop} {N : Nat}
    (hseq : ∀ W, Below w.heap.size w W → W.heap.size = w.heap.size + 2 → SeqP F (n - 1) P gf lb encs Mm Rr Kp S Sp N (w.heap.size + 1) W)
    (hKt : ∀ {A B C : World}, Kp A B → Kp B C → Kp A C) (hKb : ∀ (W : World) (r : Loop) (o' : Obj), W.heap[w.heap.size + 1]? = some (.loop r) → Kp W (W.putObj (w.heap.size + 1) o')) (hps : ∀ x, (encs x).size = ps.size) (hMm : ∀ x, OwnFrom w.heap.size (fun (_ : Unit) W => Mm x W))
    (I : Nat → List α → World → Prop) (Ix : Nat → Code → List α → World → Prop) (hI : ∀ C, PrivP w.heap.size C (I C)) (hIx : ∀ C c, PrivP w.heap.size C (Ix C c)) (h0 : ∀ C, I C [] w) (Ax : α → Act → World → Prop) (hAx : ∀ x a', OwnFrom w.heap.size (fun (_ : Unit) W => Ax x a' W))
    (hassign : ∀ (l C : Nat) (pre : List α) (x : α) (W : World) (K : Act → World → Prop), w.heap.size + 2 ≤ C → C ≤ W.heap.size → I C pre W → Mm x W → Rr pre x → (∀ a' W', KeepsFrom w.heap.size W W' → Kp W W' → I C pre W' → Mm x W' → Ax x a' W' → K a' W') →
      assign.wpIn (F.inRound l) (n - 1 - 1) P (Exit.then K (fun _ _ _ => False)) { tmps := (ps.zip (encs x)).foldl (fun t (p, v) => t.setIfInBounds p v) a.tmps, defers := [] } W)
    (hbody : ∀ (l C : Nat) (pre : List α) (x : α) (a' : Act) (W : World), w.heap.size ≤ l → (∃ r, W.heap[l]? = some (.loop r)) → w.heap.size + 2 ≤ C → C ≤ W.heap.size → I C pre W → Mm x W → Rr pre x → Ax x a' W → pre.length < N → body.wpIn (F.inRound l) (n - 1 - 1) P (leftP w.heap.size Kp (I C) (Ix C) (pre ++ [x]) W) a' W)
    (hdone : ∀ (D C : Nat) (xs : List α) (W : World), w.heap.size ≤ D → w.heap.size + 2 ≤ C → S xs → I C xs W → W.heap[D]? = some (.deferred (some [])) → Q .normal { a with defers := { target := .collected D, args := #[] } :: a.defers } W)
    (hstop : ∀ (D C : Nat) (c : Code) (pre : List α) (W : World), w.heap.size ≤ D → w.heap.size + 2 ≤ C → Sp pre → Ix C c pre W → W.heap[D]? = some (.deferred (some [])) → c.wpIn F n P Q { a with defers := { target := .collected D, args := #[] } :: a.defers } W) :
    (Code.rangeFunc g ps assign body).wpIn F n P Q a w := by
  refine wpIn_rangeFunc fun fn hfn => ?_
  rw [hro]
  obtain ⟨D, hD⟩ : ∃ D, D = w.heap.size := ⟨_, rfl⟩
  obtain ⟨r0, hr0⟩ : ∃ r0 : Loop, r0 = { state := .ready, pending := none, fn, tmps := a.tmps, params := ps, assign, body, defers := w.heap.size } := ⟨_, rfl⟩
  obtain ⟨W1, hW1⟩ : ∃ W1, (w.alloc (.deferred (some []))).alloc (.loop r0) = W1 := ⟨_, rfl⟩
  have hs1 : W1.heap.size = D + 2 := by rw [← hW1, hD]; simp
  have hl1 : W1.heap[D + 1]? = some (.loop r0) := by
    have := World.alloc_heap_new (w.alloc (.deferred (some []))) (.loop r0)
    rw [World.size_alloc, hW1, ← hD] at this
    exact this
  have hk1 : W1.heap[D]? = some (.deferred (some [])) := by
    rw [← hW1, hD]; exact (Below.heap_alloc _ _ _ (by simp)).trans (World.alloc_heap_new w _)
  have hi1 : ∀ C, I C [] W1 := fun C => by rw [← hW1]; exact (hI C).alloc _ ((hI C).alloc _ (h0 C))
  have hb1 : Below w.heap.size w W1 := by rw [← hW1]; exact ((Below.refl _ w).alloc (Nat.le_refl _) _).alloc (by simp) _
  have henter : (Instr.enterLoop fn a.tmps ps assign body none).run P w = .ok (D + 1, [{ target := .collected D, args := #[] }]) W1 := by
    rw [← hW1, hr0, hD]; exact run_enterLoop_outer _ _ _ _ _
  -- what is turned from W1's end on turns neither the record nor the block for deferred calls
  have hfar : ∀ {A B : World} {row : Option Nat} {C k : Nat} {o : Obj}, k < D + 2 → A.grownBy B row → (∀ r, row = some r → W1.heap.size ≤ r ∧ (r < C ∨ ∃ o : Obj, A.heap[r]? = some o ∧ o.isCells = false)) → A.heap[k]? = some o → B.heap[k]? = some o := fun {A B row C k o} hk hg hr ho =>
    (hg.block k (Array.getElem?_eq_some_iff.1 ho).1 (fun e => by have := (hr k e.symm).1; omega)).trans ho
  have hwide : ∀ {A : World} {row : Option Nat} {C : Nat}, (∀ r, row = some r → W1.heap.size ≤ r ∧ (r < C ∨ ∃ o : Obj, A.heap[r]? = some o ∧ o.isCells = false)) → (∀ r, row = some r → w.heap.size ≤ r ∧ (r < C ∨ ∃ o : Obj, A.heap[r]? = some o ∧ o.isCells = false)) := fun hr r e => ⟨by have := (hr r e).1; omega, (hr r e).2⟩
  have hcontract := hseq W1 hb1 (by rw [hs1, hD])
  rw [← hD] at hcontract hKb
  refine ⟨D + 1, [{ target := .collected D, args := #[] }], W1, { target := .fn (.func gf) lb, args := #[.func (.yield (D + 1)) #[] #[]] }, W1, gf, #[.func (.yield (D + 1)) #[] #[]] ++ lb, W1, henter, ?_, ?_, ?_, fun _ => h1, ?_⟩
  · simp only [resolve, hg]
    simp [go_sem]
  · intro f' hf'
    simp [Target.leads] at hf'
    subst hf'
    exact hFg
  · simp [invoke, go_sem, eg]
  refine (hcontract (fun C pre W => I C pre W ∧ W.heap[D + 1]? = some (.loop r0) ∧ W.heap[D]? = some (.deferred (some [])))
    (fun C pre W => ∃ c, Ix C c pre W ∧ W.heap[D + 1]? = some (.loop { r0 with state := .done, pending := some c }) ∧ W.heap[D]? = some (.deferred (some [])))
    (fun C s A B row hs hg' hr => ⟨hI C s A B row hs.1 hg' (hwide hr), hfar (by omega) hg' hr hs.2.1, hfar (by omega) hg' hr hs.2.2⟩)
    (fun C s A B row hs hg' hr => by
      obtain ⟨c, h1, h2, h3⟩ := hs
      exact ⟨c, hIx C c s A B row h1 hg' (hwide hr), hfar (by omega) hg' hr h2, hfar (by omega) hg' hr h3⟩)
    ?_ (fun C => ⟨hi1 C, hl1, hk1⟩)).mono ?_
  · -- a round
    rintro C pre x W hC1 hC2 ⟨hi, hl, hk⟩ hmm hrr hlen
    have hy := run_yield (P := P) (args := encs x) hl (by rw [hr0]; exact hps x)
    rw [hr0] at hy
    refine ⟨fn, _, assign, body, hy, roundIn_of_wpIn hfn (hassign _ C pre x W _ (by omega) hC2 hi hmm hrr fun a' Wa hkf hkp hia hma hax => ?_)⟩
    have hla := hkf.same _ _ (by omega) hl rfl
    have hka := hkf.same _ _ (by omega) hk rfl
    have hlt : D + 1 < Wa.heap.size := (Array.getElem?_eq_some_iff.1 hla).1
    refine ⟨_, run_beginRound hla (by rw [hr0]), ?_⟩
    have hl2 : (Wa.putObj (D + 1) (.loop { r0 with state := .busy })).heap[D + 1]? = some (.loop { r0 with state := .busy }) := World.putObj_heap_same hlt
    have hk2 : (Wa.putObj (D + 1) (.loop { r0 with state := .busy })).heap[D]? = some (.deferred (some [])) := (World.putObj_heap_other (by omega)).trans hka
    have hw2 : Kp W (Wa.putObj (D + 1) (.loop { r0 with state := .busy })) := hKt hkp (hKb _ _ _ hla)
    refine wpIn_mono (hbody _ C pre x a' _ (by omega) ⟨_, hl2⟩ (by omega) (by have := hkf.size; simpa using (Nat.le_trans hC2 this)) ((hI C).putObj _ hia (by omega) hla rfl) ((hMm x).putObj (s := ()) _ hma (by omega) hla rfl) hrr ((hAx x a').putObj (s := ()) _ hax (by omega) hla rfl) hlen) ?_
    rintro e a3 W3 hp
    cases e with
    | normal =>
      obtain ⟨h3, hkp3, hi3⟩ := hp
      obtain ⟨hr, hl3, hl4, hk4⟩ := out_of_roundP (P := P) (show D ≠ D + 1 by omega) hl2 hk2 (show w.heap.size ≤ D by omega) (show w.heap.size ≤ D + 1 by omega) h3 none
      exact ⟨_, _, hr, hKt hw2 (hKt hkp3 (hKb _ _ _ hl3)), .inl ⟨rfl, (hI C).putObj _ hi3 (by omega) hl3 rfl, by rw [hl4, hr0]; rfl, hk4⟩⟩
    | ret =>
      obtain ⟨h3, hkp3, hi3⟩ := hp
      obtain ⟨hr, hl3, hl4, hk4⟩ := out_of_roundP (P := P) (show D ≠ D + 1 by omega) hl2 hk2 (show w.heap.size ≤ D by omega) (show w.heap.size ≤ D + 1 by omega) h3 (some .ret)
      exact ⟨_, _, hr, hKt hw2 (hKt hkp3 (hKb _ _ _ hl3)), .inr ⟨rfl, .ret, (hIx C _).putObj _ hi3 (by omega) hl3 rfl, by rw [hl4, hr0]; rfl, hk4⟩⟩
    | exit id =>
      obtain ⟨h3, hkp3, hi3⟩ := hp
      obtain ⟨hr, hl3, hl4, hk4⟩ := out_of_roundP (P := P) (show D ≠ D + 1 by omega) hl2 hk2 (show w.heap.size ≤ D by omega) (show w.heap.size ≤ D + 1 by omega) h3 (some (.exit id))
      exact ⟨_, _, hr, hKt hw2 (hKt hkp3 (hKb _ _ _ hl3)), .inr ⟨rfl, .exit id, (hIx C _).putObj _ hi3 (by omega) hl3 rfl, by rw [hl4, hr0]; rfl, hk4⟩⟩
    | goto t =>
      obtain ⟨h3, hkp3, hi3⟩ := hp
      obtain ⟨hr, hl3, hl4, hk4⟩ := out_of_roundP (P := P) (show D ≠ D + 1 by omega) hl2 hk2 (show w.heap.size ≤ D by omega) (show w.heap.size ≤ D + 1 by omega) h3 (some (.goto t))
      exact ⟨_, _, hr, hKt hw2 (hKt hkp3 (hKb _ _ _ hl3)), .inr ⟨rfl, .goto t, (hIx C _).putObj _ hi3 (by omega) hl3 rfl, by rw [hl4, hr0]; rfl, hk4⟩⟩
    | panic ch => exact hp.elim
    | outgrown => exact hp.elim
  · -- behind the iterator
    rintro e W2 ⟨⟨v, rfl⟩, C, hCC, (⟨xs, hS, hi, hl, hk⟩ | ⟨pre, hSp, c, hi, hl, hk⟩)⟩
    · have hend := run_endLoop (P := P) hl (by rw [hr0]; simp)
      refine ⟨none, _, by rw [hend, hr0], ?_⟩
      exact hdone D C xs _ (by omega) (by omega) hS ((hI C).putObj _ hi (by omega) hl rfl) ((World.putObj_heap_other (by omega)).trans hk)
    · have hend := run_endLoop (P := P) hl (by simp)
      refine ⟨some c, _, hend, ?_⟩
      exact hstop D C c pre _ (by omega) (by omega) hSp ((hIx C c).putObj _ hi (by omega) hl rfl) ((World.putObj_heap_other (by omega)).trans hk)
end
end Go.Proofs.Ytlecfdchmcghlaa
