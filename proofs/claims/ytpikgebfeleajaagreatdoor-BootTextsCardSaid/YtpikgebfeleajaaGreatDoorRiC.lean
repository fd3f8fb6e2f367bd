/-
  The document's List and find. No condition but lengths and ranges.
-/
import Derived.Test.YtpikgebfeleajaaGreatDoorIsPa
import Derived.Test.YtpikgebfeleajaaGreatDoorRi8
import Derived.Test.YtpikgebfeleajaaGreatDoorIsE
import Derived.Test.YtpikgebfeleajaaGreatDoorRi5
namespace Go.Proofs.YtpikgebfeleajaaGreatDoor.I
section
open Go.RowKit
set_option linter.unusedVariables false
set_option linter.unusedSimpArgs false

/-! ## lines -/
/-- The lines that have an end, without it; what is behind the last one. -/
def cutL : List UInt8 → List (List UInt8) × List UInt8
  | [] => ([], [])
  | c :: r => if c = 10 then ([] :: (cutL r).1, (cutL r).2) else match (cutL r).1 with
    | [] => ([], c :: (cutL r).2)
    | l :: ls => ((c :: l) :: ls, (cutL r).2)
theorem cutL_end (r : List UInt8) : cutL (10 :: r) = ([] :: (cutL r).1, (cutL r).2) := by rw [cutL, if_pos rfl]
theorem cutL_none {c : UInt8} (h : c ≠ 10) {r : List UInt8} (hr : (cutL r).1 = []) : cutL (c :: r) = ([], c :: (cutL r).2) := by
  rw [cutL, if_neg h, hr]
theorem cutL_some {c : UInt8} (h : c ≠ 10) {r : List UInt8} {l : List UInt8} {ls : List (List UInt8)} (hr : (cutL r).1 = l :: ls) : cutL (c :: r) = ((c :: l) :: ls, (cutL r).2) := by
  rw [cutL, if_neg h, hr]
theorem lns_cutL : ∀ s : List UInt8, lns s = (cutL s).1.map (fun l => l ++ [10]) ++ (if (cutL s).2 = [] then [] else [(cutL s).2])
  | [] => rfl
  | c :: r => by
    have ih := lns_cutL r
    by_cases h : c = 10
    · subst h
      rw [lns_end, cutL_end, ih]
      rfl
    · rw [lns_more _ h, ih]
      cases hr : (cutL r).1 with
      | nil =>
        rw [cutL_none h hr]
        by_cases h2 : (cutL r).2 = []
        · rw [if_pos h2]
          simp [h2]
        · rw [if_neg h2]
          simp
      | cons l ls =>
        rw [cutL_some h hr]
        simp
theorem cutL_snoc_end : ∀ t : List UInt8, cutL (t ++ [10]) = ((cutL t).1 ++ [(cutL t).2], [])
  | [] => rfl
  | c :: r => by
    have ih := cutL_snoc_end r
    by_cases h : c = 10
    · subst h
      rw [List.cons_append, cutL_end, cutL_end, ih]
      rfl
    · rw [List.cons_append]
      cases hr : (cutL r).1 with
      | nil =>
        rw [cutL_none h hr]
        rw [hr] at ih
        rw [cutL_some h (r := r ++ [10]) (l := (cutL r).2) (ls := []) (by rw [ih]; rfl), ih]
        rfl
      | cons l ls =>
        rw [cutL_some h hr]
        rw [hr] at ih
        rw [cutL_some h (r := r ++ [10]) (l := l) (ls := ls ++ [(cutL r).2]) (by rw [ih]; rfl), ih]
        rfl
theorem cutL_snoc {d : UInt8} (hd : d ≠ 10) : ∀ t : List UInt8, cutL (t ++ [d]) = ((cutL t).1, (cutL t).2 ++ [d])
  | [] => by rw [List.nil_append, cutL_none hd rfl]; rfl
  | c :: r => by
    have ih := cutL_snoc hd r
    by_cases h : c = 10
    · subst h
      rw [List.cons_append, cutL_end, cutL_end, ih]
    · rw [List.cons_append]
      cases hr : (cutL r).1 with
      | nil =>
        rw [cutL_none h hr, cutL_none h (r := r ++ [d]) (by rw [ih, hr]), ih]
        rfl
      | cons l ls =>
        rw [cutL_some h hr, cutL_some h (r := r ++ [d]) (l := l) (ls := ls) (by rw [ih, hr]), ih]
theorem cutL_count : ∀ s : List UInt8, (cutL s).1.length + (cutL s).2.length ≤ s.length
  | [] => Nat.le_refl _
  | c :: r => by
    have ih := cutL_count r
    by_cases h : c = 10
    · subst h
      rw [cutL_end]
      simp only [List.length_cons]
      omega
    · cases hr : (cutL r).1 with
      | nil =>
        rw [cutL_none h hr]
        rw [hr] at ih
        simp only [List.length_cons, List.length_nil] at *
        omega
      | cons l ls =>
        rw [cutL_some h hr]
        rw [hr] at ih
        simp only [List.length_cons] at *
        omega
theorem cutL_mem : ∀ {s : List UInt8} {l : List UInt8}, l ∈ (cutL s).1 → l.length ≤ s.length
  | [], l, h => by cases h
  | c :: r, l, h => by
    by_cases hc : c = 10
    · subst hc
      rw [cutL_end] at h
      rcases List.mem_cons.1 h with rfl | h
      · simp
      · have := cutL_mem h
        simp only [List.length_cons]
        omega
    · cases hr : (cutL r).1 with
      | nil => rw [cutL_none hc hr] at h; cases h
      | cons a ls =>
        rw [cutL_some hc hr] at h
        have ih := fun x (hx : x ∈ a :: ls) => cutL_mem (s := r) (l := x) (by rw [hr]; exact hx)
        rcases List.mem_cons.1 h with rfl | h
        · have := ih a (List.mem_cons_self ..)
          simp only [List.length_cons]
          omega
        · have := ih l (List.mem_cons_of_mem _ h)
          simp only [List.length_cons]
          omega

/-! ## through the lines once: labels' places -/
def isWordR (l : List UInt8) : Bool := decide (5 < l.length) && decide (l.take 5 = wordP)
def okR (l : List UInt8) : Bool := if isWordR l then numB (l.drop 5) && (decide (0 ≤ numN (l.drop 5)) && decide (numN (l.drop 5) < 4294967296)) else (namedT (pieces l)).is
def findP (ps : List (List UInt8 × Int)) (s : List UInt8) : Int := match labO ps s with | none => -1 | some v => v
def passR : List (List UInt8) → List (List UInt8 × Int) → Int → Int → Except Int (List (List UInt8 × Int))
  | [], ps, _, _ => .ok ps
  | l :: ls, ps, n, i => match cutSuf 58 l with
    | some nm => if nameB nm = true ∧ findP ps nm < 0 then passR ls (ps ++ [(nm, n)]) n (i + 1) else .error (i + 1)
    | none => if okR l = true ∧ n ≠ 512 then passR ls ps (n + 1) (i + 1) else .error (i + 1)
/-- Through them once more: words. -/
def wordsR (ps : List (List UInt8 × Int)) : List (List UInt8) → List Int → Int → Except Int (List Int)
  | [], out, _ => .ok out
  | l :: ls, out, i => match cutSuf 58 l with
    | some _ => wordsR ps ls out (i + 1)
    | none =>
      if isWordR l = true then wordsR ps ls (out ++ [numN (l.drop 5) % 4294967296]) (i + 1)
      else if (namedT (pieces l)).lab = [] then wordsR ps ls (out ++ [encW (namedT (pieces l)).x]) (i + 1)
      else if findP ps (namedT (pieces l)).lab < 0 then .error (i + 1)
      else wordsR ps ls (out ++ [encW { (namedT (pieces l)).x with imm := findP ps (namedT (pieces l)).lab - (out.length : Int) - 1 }]) (i + 1)
def asmR (s : List UInt8) : List Int × Int × Int :=
  match passR (cutL s).1 [] 0 0 with
  | .error i => ([], i, 31)
  | .ok ps =>
    if (cutL s).2 ≠ [] then ([], ((cutL s).1.length : Int) + 1, 31)
    else match wordsR ps (cutL s).1 [] 0 with
      | .error i => ([], i, 31)
      | .ok out => (out, 0, 0)

/-! ## they say the same -/
theorem word_pre (l : List UInt8) : isWordR l = (wordP.isPrefixOf l && decide (5 < l.length)) := by
  unfold isWordR
  rw [Bool.and_comm]
  congr 1
  have hl : wordP.length = 5 := rfl
  rw [Bool.eq_iff_iff, decide_eq_true_iff, List.isPrefixOf_iff_prefix, List.prefix_iff_eq_take, hl]
  exact ⟨fun h => h.symm, fun h => h.symm⟩
theorem word_five {l : List UInt8} (h : wordP.isPrefixOf l = true) (h5 : ¬ 5 < l.length) : l = wordP := by
  rw [List.isPrefixOf_iff_prefix] at h
  have h1 := h.length_le
  have hl : wordP.length = 5 := rfl
  exact (h.eq_of_length (by omega)).symm
theorem named_word : (namedT (pieces wordP)).is = false := by decide +kernel
theorem ok_take (l : List UInt8) : okR l = if wordP.isPrefixOf l then (numB (l.drop 5) && decide (0 ≤ numN (l.drop 5) ∧ numN (l.drop 5) < 4294967296)) else (namedT (pieces l)).is := by
  unfold okR
  rw [word_pre]
  by_cases h : wordP.isPrefixOf l = true
  · rw [h, if_pos rfl, Bool.true_and]
    by_cases h5 : 5 < l.length
    · rw [if_pos (decide_eq_true h5), Bool.decide_and]
    · rw [if_neg (by simpa using h5), word_five h h5, named_word]
      decide +kernel
  · have hf : wordP.isPrefixOf l = false := Bool.eq_false_iff.2 h
    rw [hf, Bool.false_and, if_neg (by decide), if_neg (by decide)]
/-- Names and where they stand, told in either order. -/
structure Labs (labs ps : List (List UInt8 × Int)) : Prop where
  same : ∀ s, labO labs s = labO ps s
  pos : ∀ s v, labO ps s = some v → 0 ≤ v ∧ v ≤ 512
theorem labO_snoc (ps : List (List UInt8 × Int)) (nm : List UInt8) (v : Int) (s : List UInt8) : labO (ps ++ [(nm, v)]) s = match labO ps s with | some y => some y | none => if nm = s then some v else none := by
  induction ps with
  | nil => simp [labO]
  | cons p ps ih =>
    obtain ⟨k, u⟩ := p
    rw [List.cons_append, labO, labO]
    by_cases h : k = s
    · rw [if_pos h, if_pos h]
    · rw [if_neg h, if_neg h, ih]
theorem findP_neg {labs ps : List (List UInt8 × Int)} (h : Labs labs ps) (s : List UInt8) : findP ps s < 0 ↔ (labO labs s).isSome = false := by
  rw [h.same]
  unfold findP
  cases hl : labO ps s with
  | none => simp
  | some v => have := (h.pos s v hl).1; simp; omega
theorem Labs.add {labs ps : List (List UInt8 × Int)} (h : Labs labs ps) {nm : List UInt8} {v : Int} (hn : (labO labs nm).isSome = false) (hv : 0 ≤ v ∧ v ≤ 512) : Labs ((nm, v) :: labs) (ps ++ [(nm, v)]) := by
  have hnone : labO ps nm = none := by
    rw [h.same] at hn
    cases hl : labO ps nm with
    | none => rfl
    | some v => rw [hl] at hn; cases hn
  refine ⟨fun s => ?_, fun s u hs => ?_⟩
  · rw [labO_snoc, labO, h.same]
    by_cases e : nm = s
    · subst e
      rw [if_pos rfl, hnone]
      simp
    · rw [if_neg e]
      cases labO ps s <;> simp [e]
  · rw [labO_snoc] at hs
    cases hl : labO ps s with
    | some y => rw [hl] at hs; injection hs with hs; rw [← hs]; exact h.pos s y hl
    | none =>
      rw [hl] at hs
      simp only at hs
      split at hs
      · injection hs with hs; rw [← hs]; exact hv
      · cases hs
/-- The words that are laid at first, and the jumps, of lines. -/
def w0L : List (List UInt8) → List Int
  | [] => []
  | l :: ls => match cutSuf 58 l with
    | some _ => w0L ls
    | none => (if wordP.isPrefixOf l then numN (l.drop 5) % 4294967296 else encW (namedT (pieces l)).x) :: w0L ls
def jsL : List (List UInt8) → Nat → Int → List JmpS
  | [], _, _ => []
  | l :: ls, k, i => match cutSuf 58 l with
    | some _ => jsL ls k (i + 1)
    | none => (if wordP.isPrefixOf l then [] else if (namedT (pieces l)).lab = [] then [] else [⟨k, (namedT (pieces l)).x, (namedT (pieces l)).lab, i + 1⟩]) ++ jsL ls (k + 1) (i + 1)
theorem runA_step (p : PgS) (n : Int) (l : List UInt8) (ls : List (List UInt8)) : runA p n ((l ++ [10]) :: ls) = if (takeP p l (n + 1)).2 then runA (takeP p l (n + 1)).1 (n + 1) ls else ((takeP p l (n + 1)).1, n + 1, false) := by
  rw [runA, cutNl_end]
  simp
theorem pass_run : ∀ (ls : List (List UInt8)) (p : PgS) (ps : List (List UInt8 × Int)) (i : Int) (tl : List (List UInt8)), Labs p.labs ps → p.words.length ≤ 512 →
    (∀ e, passR ls ps (p.words.length : Int) i = .error e → ∃ p', runA p i (ls.map (fun l => l ++ [10]) ++ tl) = (p', e, false)) ∧
    (∀ ps', passR ls ps (p.words.length : Int) i = .ok ps' → ∃ labs', Labs labs' ps' ∧ (p.words ++ w0L ls).length ≤ 512 ∧ (∀ l ∈ ls, cutSuf 58 l = none → okR l = true) ∧
      runA p i (ls.map (fun l => l ++ [10]) ++ tl) = runA ⟨p.words ++ w0L ls, labs', p.jumps ++ jsL ls p.words.length i⟩ (i + (ls.length : Int)) tl)
  | [], p, ps, i, tl, hL, h5 => by
    refine ⟨fun e h => (by cases h), fun ps' h => ?_⟩
    injection h with h
    subst h
    refine ⟨p.labs, hL, by simp [w0L]; exact h5, fun l hl => (by cases hl), ?_⟩
    simp [w0L, jsL]
  | l :: ls, p, ps, i, tl, hL, h5 => by
    rw [List.map_cons, List.cons_append, runA_step]
    unfold passR
    cases hc : cutSuf 58 l with
    | some nm =>
      simp only
      by_cases hg : nameB nm = true ∧ findP ps nm < 0
      · have hno := (findP_neg hL nm).1 hg.2
        have ht : takeP p l (i + 1) = (⟨p.words, (nm, p.words.length) :: p.labs, p.jumps⟩, true) := by
          unfold takeP
          rw [hc]
          simp only
          rw [hno, hg.1]
          simp
        rw [if_pos hg, ht]
        simp only [if_true]
        obtain ⟨h1, h2⟩ := pass_run ls ⟨p.words, (nm, (p.words.length : Int)) :: p.labs, p.jumps⟩ (ps ++ [(nm, (p.words.length : Int))]) (i + 1) tl (hL.add hno (by omega)) h5
        refine ⟨h1, fun ps' h => ?_⟩
        obtain ⟨labs', e1, e2, e3, e4⟩ := h2 ps' h
        refine ⟨labs', e1, ?_, fun x hx hcx => ?_, ?_⟩
        · have : w0L (l :: ls) = w0L ls := by rw [w0L, hc]
          rw [this]; exact e2
        · rcases List.mem_cons.1 hx with rfl | hx
          · rw [hc] at hcx; cases hcx
          · exact e3 x hx hcx
        · rw [e4]
          have a1 : w0L (l :: ls) = w0L ls := by rw [w0L, hc]
          have a2 : jsL (l :: ls) p.words.length i = jsL ls p.words.length (i + 1) := by rw [jsL, hc]
          rw [a1, a2, List.length_cons]
          congr 1
          omega
      · have ht : takeP p l (i + 1) = (p, false) := by
          unfold takeP
          rw [hc]
          simp only
          rw [if_pos]
          by_cases hn : nameB nm = true
          · have : ¬ (labO p.labs nm).isSome = false := fun h => hg ⟨hn, (findP_neg hL nm).2 h⟩
            simp only [Bool.not_eq_false] at this
            simp [this]
          · simp [hn]
        rw [if_neg hg, ht]
        refine ⟨fun e h => ?_, fun ps' h => by cases h⟩
        injection h with h
        subst h
        exact ⟨p, by simp⟩
    | none =>
      simp only
      by_cases hg : okR l = true ∧ (p.words.length : Int) ≠ 512
      · have h51 : ¬ 512 ≤ p.words.length := by omega
        have hk := hg.1
        rw [ok_take] at hk
        obtain ⟨wd, hwd⟩ : ∃ wd, (if wordP.isPrefixOf l then numN (l.drop 5) % 4294967296 else encW (namedT (pieces l)).x) = wd := ⟨_, rfl⟩
        obtain ⟨jm, hjm⟩ : ∃ jm, (if wordP.isPrefixOf l then [] else if (namedT (pieces l)).lab = [] then [] else [(⟨p.words.length, (namedT (pieces l)).x, (namedT (pieces l)).lab, i + 1⟩ : JmpS)]) = jm := ⟨_, rfl⟩
        have ht : takeP p l (i + 1) = (⟨p.words ++ [wd], p.labs, p.jumps ++ jm⟩, true) := by
          unfold takeP
          rw [hc]
          simp only
          rw [if_neg h51, ← hwd, ← hjm]
          by_cases hw : wordP.isPrefixOf l = true
          · rw [if_pos hw] at hk
            rw [if_pos hw, if_pos hw, if_pos hw, hk, List.append_nil]
          · rw [if_neg hw] at hk
            rw [if_neg hw, if_neg hw, if_neg hw, hk]
            by_cases hlb : (namedT (pieces l)).lab = []
            · rw [if_pos hlb, if_pos hlb, List.append_nil]
            · rw [if_neg hlb, if_neg hlb]
        rw [if_pos hg, ht]
        simp only [if_true]
        have hlw : ((p.words ++ [wd]).length : Int) = (p.words.length : Int) + 1 := by simp
        obtain ⟨h1, h2⟩ := pass_run ls ⟨p.words ++ [wd], p.labs, p.jumps ++ jm⟩ ps (i + 1) tl hL (by simp; omega)
        simp only [hlw] at h1 h2
        refine ⟨h1, fun ps' h => ?_⟩
        obtain ⟨labs', e1, e2, e3, e4⟩ := h2 ps' h
        have a1 : w0L (l :: ls) = wd :: w0L ls := by rw [w0L, hc, ← hwd]
        have a2 : jsL (l :: ls) p.words.length i = jm ++ jsL ls (p.words.length + 1) (i + 1) := by rw [jsL, hc, ← hjm]
        refine ⟨labs', e1, ?_, fun x hx hcx => ?_, ?_⟩
        · rw [a1]; simpa using e2
        · rcases List.mem_cons.1 hx with rfl | hx
          · exact hg.1
          · exact e3 x hx hcx
        · rw [e4, a1, a2, List.length_cons, List.length_append]
          simp only [List.append_assoc, List.cons_append, List.nil_append, List.length_cons, List.length_nil]
          congr 1
          omega
      · rw [if_neg hg]
        have ht : (takeP p l (i + 1)).2 = false := by
          unfold takeP
          rw [hc]
          simp only
          by_cases h51 : 512 ≤ p.words.length
          · rw [if_pos h51]
          · rw [if_neg h51]
            have hk : okR l = false := by
              cases hok : okR l with
              | false => rfl
              | true => exact absurd ⟨hok, by omega⟩ hg
            rw [ok_take] at hk
            by_cases hw : wordP.isPrefixOf l = true
            · rw [if_pos hw] at hk ⊢; exact hk
            · rw [if_neg hw] at hk ⊢; exact hk
        refine ⟨fun e h => ?_, fun ps' h => by cases h⟩
        injection h with h
        subst h
        exact ⟨(takeP p l (i + 1)).1, by rw [ht]; simp⟩
end
end Go.Proofs.YtpikgebfeleajaaGreatDoor.I
namespace Go.Proofs.YtpikgebfeleajaaGreatDoor.I
section
open Go.RowKit
set_option linter.unusedVariables false
set_option linter.unusedSimpArgs false

theorem step_lab {j : Nat} {s s' : NmS} (h : stepN j true s = some s') (h0 : s.lab = [] ∨ jmpB s.x.op = true) : s'.lab = [] ∨ jmpB s'.x.op = true := by
  have ho := step_op h
  unfold stepN at h
  rw [if_pos rfl] at h
  cases hs : s.ws with
  | nil => rw [hs] at h; cases h
  | cons w r =>
    rw [hs] at h
    simp only at h
    split at h
    · injection h with h
      rw [ho]
      rcases h0 with h1 | h1
      · exact .inl (by rw [← h]; exact h1)
      · exact .inr h1
    · split at h
      · rename_i hq
        exact .inr (by rw [ho]; exact hq.2.1)
      · cases h
theorem stL_lab : ∀ {l : List UInt8} {s s' : NmS}, stL l (some s) = some s' → (s.lab = [] ∨ jmpB s.x.op = true) → s'.lab = [] ∨ jmpB s'.x.op = true
  | [], s, s', h, h0 => by injection h with h; subst h; exact h0
  | c :: l, s, s', h, h0 => by
    have h2 : stL l (stepN (jC c) true s) = some s' := h
    cases hs : stepN (jC c) true s with
    | none => rw [hs, stL_none] at h2; cases h2
    | some t =>
      rw [hs] at h2
      exact stL_lab h2 (step_lab hs h0)
theorem named_jmp' {ws : List (List UInt8)} (h : (namedT ws).is = true) (hl : (namedT ws).lab ≠ []) : MayI (namedT ws).x ∧ jmpB (namedT ws).x.op = true := by
  by_cases ho : opW (ws.getD 0 []) < 30
  · have hn := namedO_lets rfl ho
    unfold namedT at h hl ⊢
    rw [hn] at h hl ⊢
    cases hs : stL (letsI ((opW (ws.getD 0 []) : Nat) : Int)) (some (nm0 ws)) with
    | none => rw [hs] at h; cases h
    | some s =>
      rw [hs] at h hl
      simp only at h hl ⊢
      rw [Bool.and_eq_true, decide_eq_true_iff] at h
      refine ⟨h.2, ?_⟩
      rcases stL_lab hs (.inl rfl) with h1 | h1
      · exact absurd h1 hl
      · exact h1
  · have h30 : opW (ws.getD 0 []) = 30 := by have := opW_le (ws.getD 0 []); omega
    rw [namedT_op h30] at h
    cases h
theorem jmp_imm : fI (fR 19) = true ∧ fI (fR 20) = true ∧ fI (fR 21) = true ∧ fI (fR 22) = true := by decide +kernel
theorem may_imm {x : Ins} (h : MayI x) (hj : jmpB x.op = true) {v : Int} (h1 : -32768 ≤ v) (h2 : v ≤ 32767) : MayI { x with imm := v } := by
  obtain ⟨a, b, c, _⟩ := h
  refine ⟨a, b, c, .inr ⟨?_, h1, h2⟩⟩
  show fI (fR x.op) = true
  unfold jmpB at hj
  rw [decide_eq_true_iff] at hj
  rcases (show x.op = 19 ∨ x.op = 20 ∨ x.op = 21 ∨ x.op = 22 by omega) with e | e | e | e
  · rw [e]; exact jmp_imm.1
  · rw [e]; exact jmp_imm.2.1
  · rw [e]; exact jmp_imm.2.2.1
  · rw [e]; exact jmp_imm.2.2.2
theorem ok_word {l : List UInt8} (h : okR l = true) (hp : wordP.isPrefixOf l = true) : isWordR l = true := by
  rw [word_pre, hp, Bool.true_and]
  by_cases h5 : 5 < l.length
  · exact decide_eq_true h5
  · rw [word_five hp h5] at h
    have h2 : okR wordP = false := by decide +kernel
    rw [h2] at h
    cases h
theorem ok_noword {l : List UInt8} (hp : ¬ wordP.isPrefixOf l = true) : ¬ isWordR l = true := by
  rw [word_pre, Bool.eq_false_iff.2 hp, Bool.false_and]
  decide
theorem fix_words {labs ps : List (List UInt8 × Int)} (hL : Labs labs ps) : ∀ (ls : List (List UInt8)) (out : List Int) (i : Int), (∀ l ∈ ls, cutSuf 58 l = none → okR l = true) → (out ++ w0L ls).length ≤ 512 →
    (∀ o, wordsR ps ls out i = .ok o → fixJ labs (jsL ls out.length i) (out ++ w0L ls) = (o, none)) ∧
    (∀ e, wordsR ps ls out i = .error e → (fixJ labs (jsL ls out.length i) (out ++ w0L ls)).2 = some e)
  | [], out, i, _, _ => by
    refine ⟨fun o h => ?_, fun e h => (by cases h)⟩
    injection h with h
    subst h
    simp [w0L, jsL, fixJ]
  | l :: ls, out, i, hok, hlen => by
    unfold wordsR
    cases hc : cutSuf 58 l with
    | some nm =>
      simp only
      have a1 : w0L (l :: ls) = w0L ls := by rw [w0L, hc]
      have a2 : jsL (l :: ls) out.length i = jsL ls out.length (i + 1) := by rw [jsL, hc]
      rw [a1, a2]
      exact fix_words hL ls out (i + 1) (fun x hx => hok x (List.mem_cons_of_mem _ hx)) (by rw [← a1]; exact hlen)
    | none =>
      simp only
      have hk := hok l (List.mem_cons_self ..) hc
      have hlen1 : out.length < 512 := by
        have a1 : (w0L (l :: ls)).length = (w0L ls).length + 1 := by rw [w0L, hc]; rfl
        rw [List.length_append, a1] at hlen
        omega
      by_cases hp : wordP.isPrefixOf l = true
      · rw [if_pos (ok_word hk hp)]
        have a1 : w0L (l :: ls) = (numN (l.drop 5) % 4294967296) :: w0L ls := by rw [w0L, hc]; simp only; rw [if_pos hp]
        have a2 : jsL (l :: ls) out.length i = jsL ls (out ++ [numN (l.drop 5) % 4294967296]).length (i + 1) := by rw [jsL, hc]; simp only; rw [if_pos hp]; simp
        have a3 : out ++ w0L (l :: ls) = (out ++ [numN (l.drop 5) % 4294967296]) ++ w0L ls := by rw [a1]; simp
        rw [a2, a3]
        exact fix_words hL ls _ (i + 1) (fun x hx => hok x (List.mem_cons_of_mem _ hx)) (by rw [← a3]; exact hlen)
      · rw [if_neg (ok_noword hp)]
        have a1 : w0L (l :: ls) = encW (namedT (pieces l)).x :: w0L ls := by rw [w0L, hc]; simp only; rw [if_neg hp]
        by_cases hb : (namedT (pieces l)).lab = []
        · rw [if_pos hb]
          have a2 : jsL (l :: ls) out.length i = jsL ls (out ++ [encW (namedT (pieces l)).x]).length (i + 1) := by rw [jsL, hc]; simp only; rw [if_neg hp, if_pos hb]; simp
          have a3 : out ++ w0L (l :: ls) = (out ++ [encW (namedT (pieces l)).x]) ++ w0L ls := by rw [a1]; simp
          rw [a2, a3]
          exact fix_words hL ls _ (i + 1) (fun x hx => hok x (List.mem_cons_of_mem _ hx)) (by rw [← a3]; exact hlen)
        · rw [if_neg hb]
          have a2 : jsL (l :: ls) out.length i = ⟨(out.length : Int), (namedT (pieces l)).x, (namedT (pieces l)).lab, i + 1⟩ :: jsL ls (out.length + 1) (i + 1) := by rw [jsL, hc]; simp only; rw [if_neg hp, if_neg hb]; rfl
          rw [a2]
          have his : (namedT (pieces l)).is = true := by
            rw [ok_take, if_neg hp] at hk
            exact hk
          obtain ⟨hm, hj⟩ := named_jmp' his hb
          cases hlo : labO ps (namedT (pieces l)).lab with
          | none =>
            have hf : findP ps (namedT (pieces l)).lab < 0 := by unfold findP; rw [hlo]; decide
            rw [if_pos hf]
            refine ⟨fun o h => (by cases h), fun e h => ?_⟩
            injection h with h
            subst h
            unfold fixJ
            simp only
            rw [hL.same, hlo]
          | some tp =>
            have hpo := hL.pos _ _ hlo
            have hfp : findP ps (namedT (pieces l)).lab = tp := by unfold findP; rw [hlo]
            rw [if_neg (by rw [hfp]; omega), hfp]
            have hmx : MayI { (namedT (pieces l)).x with imm := tp - (out.length : Int) - 1 } := may_imm hm hj (by omega) (by omega)
            have he : encW { (namedT (pieces l)).x with imm := tp - (out.length : Int) - 1 } = encI { (namedT (pieces l)).x with imm := tp - (out.length : Int) - 1 } := if_pos hmx
            have hfx : fixJ labs (⟨(out.length : Int), (namedT (pieces l)).x, (namedT (pieces l)).lab, i + 1⟩ :: jsL ls (out.length + 1) (i + 1)) (out ++ w0L (l :: ls)) = fixJ labs (jsL ls (out.length + 1) (i + 1)) ((out ++ [encI { (namedT (pieces l)).x with imm := tp - (out.length : Int) - 1 }]) ++ w0L ls) := by
              rw [fixJ]
              simp only
              rw [hL.same, hlo]
              simp only
              rw [if_pos (show MayI (jmpX ⟨(out.length : Int), (namedT (pieces l)).x, (namedT (pieces l)).lab, i + 1⟩ tp) from hmx)]
              congr 1
              rw [a1, Int.toNat_natCast, List.set_append_right _ _ (Nat.le_refl _), Nat.sub_self]
              simp [jmpX]
            rw [hfx, he]
            have hl2 : (out ++ [encI { (namedT (pieces l)).x with imm := tp - (out.length : Int) - 1 }]).length = out.length + 1 := by simp
            have ih := fix_words hL ls (out ++ [encI { (namedT (pieces l)).x with imm := tp - (out.length : Int) - 1 }]) (i + 1) (fun x hx => hok x (List.mem_cons_of_mem _ hx)) (by
              rw [a1] at hlen
              simpa using hlen)
            rw [hl2] at ih
            exact ih
theorem cutL_rest : ∀ {s : List UInt8} {c : UInt8}, c ∈ (cutL s).2 → c ≠ 10
  | [], c, h => by cases h
  | d :: r, c, h => by
    by_cases hd : d = 10
    · subst hd
      rw [cutL_end] at h
      exact cutL_rest (s := r) h
    · cases hr : (cutL r).1 with
      | nil =>
        rw [cutL_none hd hr] at h
        rcases List.mem_cons.1 h with rfl | h
        · exact hd
        · exact cutL_rest (s := r) h
      | cons l ls =>
        rw [cutL_some hd hr] at h
        exact cutL_rest (s := r) h
theorem asm_same (s : List UInt8) : asmR s = asmP s := by
  unfold asmP
  rw [lns_cutL]
  obtain ⟨h1, h2⟩ := pass_run (cutL s).1 pg0 [] 0 (if (cutL s).2 = [] then [] else [(cutL s).2]) ⟨fun _ => rfl, fun s v h => by cases h⟩ (by decide)
  unfold asmR
  have e0 : ((pg0.words.length : Nat) : Int) = 0 := rfl
  rw [e0] at h1 h2
  cases hp : passR (cutL s).1 [] 0 0 with
  | error e =>
    obtain ⟨p', hr⟩ := h1 e hp
    rw [hr]
    simp
  | ok ps =>
    obtain ⟨labs', hL, hlen, hok, hr⟩ := h2 ps hp
    rw [hr]
    simp only
    by_cases ht : (cutL s).2 = []
    · rw [if_pos ht, if_neg (by simpa using ht)]
      have e1 : runA ⟨pg0.words ++ w0L (cutL s).1, labs', pg0.jumps ++ jsL (cutL s).1 pg0.words.length 0⟩ (0 + ((cutL s).1.length : Int)) [] = (⟨w0L (cutL s).1, labs', jsL (cutL s).1 0 0⟩, 0 + ((cutL s).1.length : Int), true) := rfl
      rw [e1]
      simp only [if_true]
      obtain ⟨f1, f2⟩ := fix_words hL (cutL s).1 [] 0 hok hlen
      simp only [List.nil_append, List.length_nil] at f1 f2
      cases hw : wordsR ps (cutL s).1 [] 0 with
      | ok o => rw [f1 o hw]
      | error e =>
        have h3 := f2 e hw
        simp only
        rcases hx : fixJ labs' (jsL (cutL s).1 0 0) (w0L (cutL s).1) with ⟨ws, on⟩
        rw [hx] at h3
        simp only at h3
        rw [h3]
    · rw [if_neg ht, if_pos ht]
      have hn : cutNl (cutL s).2 = ((cutL s).2, false) := by
        unfold cutNl
        rw [cutSuf_no fun d hd => cutL_rest hd]
      rw [runA, hn]
      simp
end
end Go.Proofs.YtpikgebfeleajaaGreatDoor.I
namespace Go.Proofs.YtpikgebfeleajaaGreatDoor.I
section
open Go.RowKit
set_option linter.unusedVariables false
set_option linter.unusedSimpArgs false
attribute [local go_sem] Oper.semAt_some

theorem may_x0 : MayI x0 := by unfold MayI x0; decide
theorem decO_may (n : Int) : MayI (decO n) := by
  by_cases h : MayI (decI n)
  · rw [decO_yes h]; exact h
  · rw [decO_no h]; exact may_x0
theorem lineW_lenR {n : Int} (h : RangeW n) : (lineW n).length ≤ 80 := by
  unfold lineW
  split
  · rename_i hm
    exact lineI_len hm
  · rw [List.length_append]
    have := dec_len (u := n.toNat) (by unfold RangeW at h; omega)
    show 5 + _ ≤ 80
    omega
theorem listP_take {ws : List Int} {k : Nat} {x : Int} (h : ws[k]? = some x) : listP (ws.take (k + 1)) = listP (ws.take k) ++ (lineW x ++ [10]) := by
  unfold listP
  rw [List.take_add_one, h, List.flatMap_append]
  simp
theorem app2 (s t : ByteArray) : (s ++ t ++ ⟨#[10]⟩ : ByteArray).data.toList = s.data.toList ++ (t.data.toList ++ [10]) := by
  rw [ByteArray.data_append, Array.toList_append, ByteArray.data_append, Array.toList_append, List.append_assoc]

set_option maxRecDepth 100000 in
set_option maxHeartbeats 8000000 in
theorem refList_any (hM : MayC) {w : World} (A : Option Addr) (ca : Nat) (ws : List Int) (hl : ws.length ≤ 1000000) (hA : WordsAt w A ws) (hr : ∀ x ∈ ws, RangeW x) :
    Calls Tryz.prog 24 #[.slice A ws.length ca] w fun e w' => e = .returned (.string ⟨(listP ws).toArray⟩) ∧ Below w.heap.size w w' := by
  have HDC := Lib.hid (fun W n hn => refDecode_any hM (w := W) n hn)
  have HLN := Lib.hid (fun W (x : Ins) (hx : MayI x) => show Calls Tryz.prog 47 #[.agg x.cells.toArray] W fun e w' => e = .returned (.tuple #[.string ⟨(lineI x).toArray⟩, .int .i64 0]) ∧ Below W.heap.size W w' from refLine_yes hM x.op x.a x.b x.imm hx)
  have HDG := Lib.hid (fun W (n : Int) (h0 : 0 ≤ n) (h1 : n ≤ 4294967295) => refDig_any (w := W) n (by omega) (by omega))
  have HA := Lib.hid (fun W (hW : Below w.heap.size w W) => hA.below hW)
  have HRG := Lib.hid hr
  have HS0 : Hid ((⟨#[]⟩ : ByteArray).data.toList = listP (ws.take 0)) := rfl
  have hb0 := Below.refl w.heap.size w
  clear hA hr
  go_enter Tryz.func24, Tryz.ntmps24
  go_wp2
  go_loopw [3, 4] (fun v i wr => ∃ (k : Nat) (s : ByteArray), i = .int .i64 (k : Int) ∧ v = .string s ∧ k ≤ ws.length ∧ s.size ≤ 81 * k ∧ Hid (s.data.toList = listP (ws.take k)) ∧ Below w.heap.size w wr) (fun _ i _ => ws.length - (intOf i).toNat)
  case atStart => exact ⟨0, ⟨#[]⟩, rfl, rfl, Nat.zero_le _, Nat.zero_le _, HS0, hb0⟩
  case round =>
    obtain ⟨k, s, rfl, rfl, hk, hsz, HS, hB⟩ := hrel
    clear HS0 hb0
    by_cases hkl : k < ws.length
    · have hka : (k : Int) < (ws.length : Int) := by omega
      have hk0 : (0 : Int) ≤ (k : Int) := by omega
      have hxe : ws[k]? = some ws[k] := List.getElem?_eq_getElem hkl
      have hrx := HRG.out ws[k] (List.getElem_mem _)
      have HTK := Lib.hid (listP_take hxe)
      have HLZ := Lib.hid (lineW_lenR hrx)
      obtain ⟨b, off, rfl, hbl, c0⟩ := wordsAt_cell (HA.out _ hB) hxe
      have HA2 := Lib.hid (fun W (hW : Below w.heap.size w W) => show W.cell? ⟨b, off + k, none⟩ = some (.int .u32 ws[k]) from by
        obtain ⟨b', off', e, _, c⟩ := wordsAt_cell (HA.out _ hW) hxe
        injection e with e
        injection e with e1 e2 _
        subst e1 e2
        exact c)
      obtain ⟨x, hx⟩ : ∃ x, ws[k] = x := ⟨_, rfl⟩
      rw [hx] at hrx HTK HLZ HA2 c0
      have hw0 : (0 : Int) ≤ x := hrx.1
      have hw1 : x ≤ 4294967295 := by have := hrx.2; omega
      have HDX := Lib.hid (fun W => HDC.out W x hrx)
      have HB := Lib.hid hB
      clear hxe hx hrx hB
      have HLX := Lib.hid (fun W => HLN.out W (decO x) (decO_may x))
      obtain ⟨⟨xo, xa, xb, xm⟩, hxx⟩ : ∃ y : Ins, decO x = y := ⟨_, rfl⟩
      rw [hxx] at HDX HLX
      have HDO := Lib.hid hxx
      clear hxx
      have hcells : (Ins.cells ⟨xo, xa, xb, xm⟩).toArray = #[.int .i64 xo, .int .i64 xa, .int .i64 xb, .int .i64 xm] := rfl
      rw [hcells] at HDX HLX
      clear hcells
      obtain ⟨lt, hlt⟩ : ∃ lt : ByteArray, (⟨(lineI ⟨xo, xa, xb, xm⟩).toArray⟩ : ByteArray) = lt := ⟨_, rfl⟩
      rw [hlt] at HLX
      have HLT := Lib.hid hlt
      clear hlt
      by_cases hm : MayI (decI x)
      · rw [errI_yes hm] at HDX
        have hdt : lt.data.toList = lineW x := by
          have h := HDO.out
          rw [decO_yes hm] at h
          rw [← HLT.out, ← h]
          unfold lineW
          rw [if_pos hm]
        have hlz : lt.size ≤ 80 := by
          have h := HLZ.out
          rw [← hdt] at h
          exact h
        have HSN := Lib.hid (show (s ++ lt ++ ⟨#[10]⟩ : ByteArray).data.toList = listP (ws.take (k + 1)) from by rw [app2, HTK.out, HS.out, hdt])
        have hc1 : s.size + lt.size ≤ 9223372036854775807 := by omega
        have hc2 : s.size + lt.size + 1 ≤ 9223372036854775807 := by omega
        clear hdt hm
        go_wp2_with fail
        refine (HDX.out _).mono ?_
        rintro e W1 ⟨rfl, hb1⟩
        have HB1 := Lib.hid (bl_new (bl_step HB.out hb1) (.cells #[.int .i64 xo, .int .i64 xa, .int .i64 xb, .int .i64 xm] 86))
        have hx1 := Blk.new W1 86 #[.int .i64 xo, .int .i64 xa, .int .i64 xb, .int .i64 xm]
        obtain ⟨d0, d1, d2, d3, dlt⟩ := ccells hx1
        clear hb1 hx1 c0
        go_wp2_with fail
        refine (HLX.out _).mono ?_
        rintro e W2 ⟨rfl, hb2⟩
        have HB2 := Lib.hid (bl_step HB1.out hb2)
        clear hb2 d0 d1 d2 d3 dlt
        go_wp2
        go_roundw
        case rel => exact ⟨k + 1, s ++ lt ++ ⟨#[10]⟩, by go_num, rfl, by omega, by rw [ByteArray.size_append, ByteArray.size_append]; show s.size + lt.size + 1 ≤ _; omega, HSN, HB2.out⟩
        case measure => simp [intOf]; omega
      · rw [errI_no hm] at HDX
        obtain ⟨dg, hdg⟩ : ∃ dg : ByteArray, (⟨(Lib.itoa x).toArray⟩ : ByteArray) = dg := ⟨_, rfl⟩
        have HDX2 := Lib.hid (fun W => show Calls Tryz.prog 48 #[.int .i64 x] W fun e w' => e = .returned (.string dg) ∧ Below W.heap.size W w' from by rw [← hdg]; exact HDG.out W x hw0 hw1)
        have hdt : dg.data.toList = Lib.decDigits x.toNat := by
          rw [← hdg]
          obtain ⟨u, rfl⟩ := Int.eq_ofNat_of_zero_le hw0
          rw [Lib.itoa_nonneg]
          rfl
        have hlz : 5 + dg.size ≤ 80 := by
          have h := HLZ.out
          unfold lineW at h
          rw [if_neg hm, ← hdt, List.length_append] at h
          exact h
        have HSN := Lib.hid (show (s ++ (⟨#[119, 111, 114, 100, 32]⟩ ++ dg) ++ ⟨#[10]⟩ : ByteArray).data.toList = listP (ws.take (k + 1)) from by
          rw [app2, HTK.out, HS.out]
          unfold lineW
          rw [if_neg hm, ← hdt, ByteArray.data_append, Array.toList_append]
          rfl)
        have hc0 : 5 + dg.size ≤ 9223372036854775807 := by omega
        have hc1 : s.size + (5 + dg.size) ≤ 9223372036854775807 := by omega
        have hc2 : s.size + (5 + dg.size) + 1 ≤ 9223372036854775807 := by omega
        have hzz : (⟨#[119, 111, 114, 100, 32]⟩ ++ dg : ByteArray).size = 5 + dg.size := ByteArray.size_append
        clear hdt hm hdg
        go_wp2_with fail
        refine (HDX.out _).mono ?_
        rintro e W1 ⟨rfl, hb1⟩
        have HBx := Lib.hid (bl_step HB.out hb1)
        have HB1 := Lib.hid (bl_new HBx.out (.cells #[.int .i64 xo, .int .i64 xa, .int .i64 xb, .int .i64 xm] 86))
        have hx1 := Blk.new W1 86 #[.int .i64 xo, .int .i64 xa, .int .i64 xb, .int .i64 xm]
        obtain ⟨d0, d1, d2, d3, dlt⟩ := ccells hx1
        clear hb1 hx1 c0
        go_wp2_with fail
        refine (HLX.out _).mono ?_
        rintro e W2 ⟨rfl, hb2⟩
        have HB2 := Lib.hid (bl_step HB1.out hb2)
        have c0 := HA2.out _ HB2.out
        clear hb2 d0 d1 d2 d3 dlt
        go_wp2_with fail
        refine (HDX2.out _).mono ?_
        rintro e W3 ⟨rfl, hb3⟩
        have HB3 := Lib.hid (bl_step HB2.out hb3)
        clear hb3 c0
        go_wp2
        go_roundw
        case rel => exact ⟨k + 1, s ++ (⟨#[119, 111, 114, 100, 32]⟩ ++ dg) ++ ⟨#[10]⟩, by go_num, rfl, by omega, by rw [ByteArray.size_append, ByteArray.size_append, hzz]; show s.size + (5 + dg.size) + 1 ≤ _; omega, HSN, HB3.out⟩
        case measure => simp [intOf]; omega
    · have hkk : k = ws.length := by omega
      subst hkk
      have hka : ¬ (ws.length : Int) < (ws.length : Int) := by omega
      have HSE := Lib.hid (show s = ⟨(listP ws).toArray⟩ from by
        have h := HS.out
        rw [List.take_of_length_le (Nat.le_refl _)] at h
        exact ByteArray.ext (by rw [← h]))
      go_wp2
      go_ret
      exact ⟨by rw [HSE.out]; rfl, hB⟩

/-! ## places -/
def placeC (p : List UInt8 × Int) : List Value := [strV p.1, .int .i64 p.2]
theorem findP_cons (p : List UInt8 × Int) (ps : List (List UInt8 × Int)) (s : List UInt8) : findP (p :: ps) s = if p.1 = s then p.2 else findP ps s := by
  obtain ⟨k, v⟩ := p
  unfold findP
  rw [labO]
  by_cases h : k = s
  · rw [if_pos h, if_pos h]
  · rw [if_neg h, if_neg h]
set_option maxRecDepth 100000 in
set_option maxHeartbeats 4000000 in
theorem refFind_any {w : World} (A : Option Addr) (ca : Nat) (ps : List (List UInt8 × Int)) (hl : ps.length ≤ 1000000) (hA : RowsAt w A 2 (ps.map placeC)) (s : ByteArray) :
    Calls Tryz.prog 56 #[.slice A ps.length ca, .string s] w fun e w' => e = .returned (.int .i64 (findP ps s.data.toList)) ∧ w' = w := by
  obtain ⟨R, hR⟩ : ∃ R, findP ps s.data.toList = R := ⟨_, rfl⟩
  rw [hR]
  have HA := Lib.hid hA
  have H0 := Lib.hid (show findP (ps.drop 0) s.data.toList = R from hR)
  clear hA hR
  go_enter Tryz.func56, Tryz.ntmps56
  go_wp2
  go_loopw [5] (fun i wr => wr = w ∧ ∃ k : Nat, i = .int .i64 (k : Int) ∧ k ≤ ps.length ∧ Hid (findP (ps.drop k) s.data.toList = R)) (fun i _ => ps.length - (intOf i).toNat)
  case atStart => exact ⟨rfl, 0, rfl, Nat.zero_le _, H0⟩
  case round =>
    obtain ⟨rfl, k, rfl, hk, HF⟩ := hrel
    clear H0
    by_cases hkl : k < ps.length
    · have hka : (k : Int) < (ps.length : Int) := by omega
      have hk0 : (0 : Int) ≤ (k : Int) := by omega
      have hd := List.drop_eq_getElem_cons hkl
      obtain ⟨⟨nm, v⟩, hx⟩ : ∃ x, ps[k] = x := ⟨_, rfl⟩
      rw [hx] at hd
      have HF2 := Lib.hid (show (if nm = s.data.toList then v else findP (ps.drop (k + 1)) s.data.toList) = R from by
        have h := HF.out
        rw [hd, findP_cons] at h
        exact h)
      obtain ⟨b, off, rfl, hbl, hc⟩ := HA.out k (placeC (nm, v)) (by rw [List.getElem?_map, List.getElem?_eq_getElem hkl, hx]; rfl)
      have c0 := hc 0 (strV nm) rfl
      have c1 := hc 1 (.int .i64 v) rfl
      rw [Nat.add_zero] at c0
      have hc0 : wr.cell? ⟨b, off + k * 2, none⟩ = some (.string ⟨nm.toArray⟩) := c0
      have hc1 : wr.cell? ⟨b, off + k * 2 + 1, none⟩ = some (.int .i64 v) := c1
      clear c0 c1 hc hd hx
      obtain ⟨ns, hns⟩ : ∃ ns : ByteArray, (⟨nm.toArray⟩ : ByteArray) = ns := ⟨_, rfl⟩
      rw [hns] at hc0
      have hnd : ns.data.toList = nm := by rw [← hns]
      by_cases he : ns = s
      · obtain rfl : v = R := by
          have h := HF2.out
          rw [if_pos (by rw [← hnd, he])] at h
          exact h
        have hb := seq_true he
        clear hns hnd he HF2
        go_wp2
        go_ret
        exact ⟨rfl, rfl⟩
      · have HF3 := Lib.hid (show findP (ps.drop (k + 1)) s.data.toList = R from by
          have h := HF2.out
          rw [if_neg (fun e => he (bytes_eq (by rw [hnd, e])))] at h
          exact h)
        have hb := seq_false he
        clear hns hnd he HF2
        go_wp2
        go_roundw
        case rel => exact ⟨trivial, k + 1, by go_num, by omega, HF3⟩
        case measure => simp [intOf]; omega
    · have hka : ¬ (k : Int) < (ps.length : Int) := by omega
      obtain rfl : -1 = R := by
        have h := HF.out
        rw [List.drop_of_length_le (by omega)] at h
        exact h
      go_wp2
      go_ret
      exact ⟨rfl, rfl⟩
end
end Go.Proofs.YtpikgebfeleajaaGreatDoor.I
