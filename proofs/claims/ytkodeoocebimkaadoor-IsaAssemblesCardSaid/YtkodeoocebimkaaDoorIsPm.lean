/-
  A line that is an instruction's is read as it, and no other. Plain: no program in sight. No condition.
-/
import Derived.Test.YtkodeoocebimkaaDoorIsC
namespace Go.Proofs.YtkodeoocebimkaaDoor
set_option linter.unusedVariables false
set_option linter.unusedSimpArgs false

theorem row_noBlank : ∀ k : Fin 31, ((rowF k.1).1.all fun c => c != 32) = true := by decide +kernel
theorem nameI_noBlank (n : Int) : ∀ c ∈ nameI n, c ≠ 32 := fun c hc => by
  have h := row_noBlank ⟨fR n, by have := fR_le n; omega⟩
  rw [List.all_eq_true] at h
  have := h c hc
  simpa using this
theorem words_noBlank (x : Ins) : ∀ w ∈ wordsI x, ∀ c ∈ w, c ≠ 32 := fun w hw => by
  unfold wordsI at hw
  rcases List.mem_cons.1 hw with rfl | hw
  · exact nameI_noBlank _
  · rcases List.mem_append.1 hw with hw | hw
    · split at hw
      · rw [List.mem_singleton.1 hw]; exact itoa_noBlank _
      · cases hw
    · rcases List.mem_append.1 hw with hw | hw
      · split at hw
        · rw [List.mem_singleton.1 hw]; exact itoa_noBlank _
        · cases hw
      · split at hw
        · rw [List.mem_singleton.1 hw]; exact itoa_noBlank _
        · cases hw
theorem pieces_line (x : Ins) : pieces (lineI x) = wordsI x := pieces_glue _ (by unfold wordsI; simp) (words_noBlank x)
theorem itoa_num {n : Int} (h0 : -40000 ≤ n) (h1 : n ≤ 40000) : numB (Lib.itoa n) = true ∧ numN (Lib.itoa n) = n := num_of_itoa (by omega) (by omega)
theorem stepN_no {j : Nat} {s : NmS} : stepN j false s = some s := rfl
theorem stepN_num {j : Nat} {s : NmS} {w : List UInt8} {r : List (List UInt8)} (hs : s.ws = w :: r) (hn : numB w = true) : stepN j true s = some ⟨r, putF s.x j (numN w), s.lab⟩ := by
  unfold stepN
  rw [if_pos rfl, hs]
  simp only [hn, if_true]
theorem nmO_line {x : Ins} (h : MayI x) : namedO (wordsI x) = some ⟨[], x, []⟩ := by
  have hs := may_small h
  have hop : opW ((wordsI x).getD 0 []) = fR x.op := by
    show opW (nameI x.op) = fR x.op
    have h1 := opW_name hs.1
    unfold fR
    rw [if_pos hs.1]
    omega
  have hk : fR x.op < 30 := by unfold fR; rw [if_pos hs.1]; omega
  unfold namedO
  rw [hop, if_pos hk]
  unfold nm3 nm2 nm1
  have h0 : nm0 (wordsI x) = ⟨(wordsI x).tail, ⟨fR x.op, 0, 0, 0⟩, []⟩ := by unfold nm0; rw [hop]
  rw [h0]
  have hxo : ((fR x.op : Nat) : Int) = x.op := by unfold fR; rw [if_pos hs.1]; omega
  rw [hxo]
  obtain ⟨na, nva⟩ := itoa_num (n := x.a) (by omega) (by omega)
  obtain ⟨nb, nvb⟩ := itoa_num (n := x.b) (by omega) (by omega)
  obtain ⟨nm, nvm⟩ := itoa_num (n := x.imm) (by omega) (by omega)
  obtain ⟨_, ha, hb, hm⟩ := h
  show (((some _).bind (stepN 0 (wantF (fR x.op) 0))).bind (stepN 1 (wantF (fR x.op) 1))).bind (stepN 2 (wantF (fR x.op) 2)) = _
  show ((stepN 0 (decide (0 ≤ fA (fR x.op))) _).bind (stepN 1 (decide (0 ≤ fB (fR x.op))))).bind (stepN 2 (fI (fR x.op))) = _
  have ht : (wordsI x).tail = (if 0 ≤ fA (fR x.op) then [Lib.itoa x.a] else []) ++ ((if 0 ≤ fB (fR x.op) then [Lib.itoa x.b] else []) ++ (if fI (fR x.op) = true then [Lib.itoa x.imm] else [])) := rfl
  rw [ht]
  obtain ⟨op, a, b, m⟩ := x
  simp only at *
  generalize fA (fR op) = fa at *
  generalize fB (fR op) = fb at *
  generalize fI (fR op) = fi at *
  have ea : ¬ 0 ≤ fa → a = 0 := fun h => by omega
  have eb : ¬ 0 ≤ fb → b = 0 := fun h => by omega
  have em : fi = false → m = 0 := fun h => hm.elim id (fun h2 => by rw [h] at h2; cases h2.1)
  clear ht hop h0 hs hxo ha hb hm
  have E0 : stepN 0 (decide (0 ≤ fa)) ⟨(if 0 ≤ fa then [Lib.itoa a] else []) ++ ((if 0 ≤ fb then [Lib.itoa b] else []) ++ (if fi = true then [Lib.itoa m] else [])), ⟨op, 0, 0, 0⟩, []⟩ = some ⟨(if 0 ≤ fb then [Lib.itoa b] else []) ++ (if fi = true then [Lib.itoa m] else []), ⟨op, a, 0, 0⟩, []⟩ := by
    by_cases h : 0 ≤ fa
    · rw [decide_eq_true h, if_pos h, stepN_num rfl na, nva]; rfl
    · rw [decide_eq_false h, if_neg h, stepN_no, ea h]; rfl
  have E1 : stepN 1 (decide (0 ≤ fb)) ⟨(if 0 ≤ fb then [Lib.itoa b] else []) ++ (if fi = true then [Lib.itoa m] else []), ⟨op, a, 0, 0⟩, []⟩ = some ⟨(if fi = true then [Lib.itoa m] else []), ⟨op, a, b, 0⟩, []⟩ := by
    by_cases h : 0 ≤ fb
    · rw [decide_eq_true h, if_pos h, stepN_num rfl nb, nvb]; rfl
    · rw [decide_eq_false h, if_neg h, stepN_no, eb h]; rfl
  have E2 : stepN 2 fi ⟨(if fi = true then [Lib.itoa m] else []), ⟨op, a, b, 0⟩, []⟩ = some ⟨[], ⟨op, a, b, m⟩, []⟩ := by
    cases fi with
    | true => rw [if_pos rfl, stepN_num rfl nm, nvm]; rfl
    | false => rw [em rfl, stepN_no]; rfl
  rw [E0]
  show ((stepN 1 _ _).bind _) = _
  rw [E1]
  exact E2
theorem namedT_line {x : Ins} (h : MayI x) : namedT (wordsI x) = ⟨x, [], true⟩ := by
  unfold namedT
  rw [nmO_line h]
  simp [h]
theorem read_line {x : Ins} (h : MayI x) : readI (lineI x) = some x := by
  unfold readI
  rw [pieces_line, namedT_line h]
  rfl

/-- What has been taken of numbers, for certain: no label. -/
theorem stepN_back {j : Nat} {want : Bool} {s s' : NmS} (h : stepN j want s = some s') (hl : s'.lab = []) : s.lab = [] ∧ ((want = false ∧ s' = s) ∨ (want = true ∧ ∃ w, s.ws = w :: s'.ws ∧ numB w = true ∧ s'.x = putF s.x j (numN w))) := by
  unfold stepN at h
  cases want with
  | false =>
    simp only [Bool.false_eq_true, if_false, Option.some.injEq] at h
    subst h
    exact ⟨hl, .inl ⟨rfl, rfl⟩⟩
  | true =>
    simp only [if_true] at h
    cases hw : s.ws with
    | nil => rw [hw] at h; cases h
    | cons w r =>
      rw [hw] at h
      simp only at h
      split at h
      · rename_i hn
        simp only [Option.some.injEq] at h
        subst h
        exact ⟨hl, .inr ⟨rfl, w, rfl, hn, rfl⟩⟩
      · split at h
        · rename_i hc
          simp only [Option.some.injEq] at h
          subst h
          simp only at hl
          have h3 := hc.2.2
          rw [hl] at h3
          exact absurd h3 (by decide)
        · cases h
theorem words_of {ws : List (List UInt8)} (hne : ws ≠ []) (hi : (namedT ws).is = true) (hl : (namedT ws).lab = []) : MayI (namedT ws).x ∧ wordsI (namedT ws).x = ws := by
  have hk : opW (ws.getD 0 []) < 30 := by
    by_cases h : opW (ws.getD 0 []) < 30
    · exact h
    · exfalso
      unfold namedT namedO at hi
      rw [if_neg h] at hi
      cases hi
  obtain ⟨k, hkk⟩ : ∃ k, opW (ws.getD 0 []) = k := ⟨_, rfl⟩
  have hO := namedO_st hk
  rw [hkk] at hO hk
  cases h3 : stN k ws 3 with
  | none =>
    exfalso
    unfold namedT at hi
    rw [hO, h3] at hi
    cases hi
  | some s3 =>
    have hT : namedT ws = ⟨s3.x, s3.lab, s3.ws.isEmpty && decide (MayI s3.x)⟩ := by unfold namedT; rw [hO, h3]
    rw [hT] at hi hl ⊢
    simp only [Bool.and_eq_true, decide_eq_true_eq] at hi hl ⊢
    refine ⟨hi.2, ?_⟩
    have hem : s3.ws = [] := List.isEmpty_iff.1 hi.1
    cases h2 : stN k ws 2 with
    | none => unfold stN at h3; rw [h2] at h3; cases h3
    | some s2 =>
      cases h1 : stN k ws 1 with
      | none => unfold stN at h2; rw [h1] at h2; cases h2
      | some s1 =>
        have e3 : stepN 2 (wantF k 2) s2 = some s3 := by unfold stN at h3; rw [h2] at h3; exact h3
        have e2 : stepN 1 (wantF k 1) s1 = some s2 := by unfold stN at h2; rw [h1] at h2; exact h2
        have e1 : stepN 0 (wantF k 0) (nm0 ws) = some s1 := by unfold stN at h1; exact h1
        obtain ⟨l2, c3⟩ := stepN_back e3 hl
        obtain ⟨l1, c2⟩ := stepN_back e2 l2
        obtain ⟨_, c1⟩ := stepN_back e1 l1
        obtain ⟨w0, r0, hw⟩ : ∃ w0 r0, ws = w0 :: r0 := by
          cases ws with
          | nil => exact absurd rfl hne
          | cons a b => exact ⟨a, b, rfl⟩
        subst hw
        have hn0 : nm0 (w0 :: r0) = ⟨r0, ⟨k, 0, 0, 0⟩, []⟩ := by unfold nm0; rw [hkk]; rfl
        rw [hn0] at c1
        have hname : nameI (k : Int) = w0 := by
          have := nameI_opW (l := w0) (by show opW w0 < 30; have : opW w0 = k := hkk; omega)
          rw [show opW w0 = k from hkk] at this
          exact this
        have hfr : fR (k : Int) = k := fR_in hk
        have hx0 : s3.x.op = (k : Int) := by
          rcases c3 with ⟨_, rfl⟩ | ⟨_, w3, _, _, e⟩
          · rcases c2 with ⟨_, rfl⟩ | ⟨_, w2, _, _, e2'⟩
            · rcases c1 with ⟨_, rfl⟩ | ⟨_, w1, _, _, e1'⟩
              · rfl
              · rw [e1', putF_op]
            · rw [e2', putF_op]
              rcases c1 with ⟨_, rfl⟩ | ⟨_, w1, _, _, e1'⟩
              · rfl
              · rw [e1', putF_op]
          · rw [e, putF_op]
            rcases c2 with ⟨_, rfl⟩ | ⟨_, w2, _, _, e2'⟩
            · rcases c1 with ⟨_, rfl⟩ | ⟨_, w1, _, _, e1'⟩
              · rfl
              · rw [e1', putF_op]
            · rw [e2', putF_op]
              rcases c1 with ⟨_, rfl⟩ | ⟨_, w1, _, _, e1'⟩
              · rfl
              · rw [e1', putF_op]
        unfold wordsI
        rw [hx0, hname, hfr]
        congr 1
        have d0 : wantF k 0 = decide (0 ≤ fA k) := rfl
        have d1 : wantF k 1 = decide (0 ≤ fB k) := rfl
        have d2 : wantF k 2 = fI k := rfl
        rw [d0] at c1
        rw [d1] at c2
        rw [d2] at c3
        rcases c1 with ⟨g1, rfl⟩ | ⟨g1, w1, q1, n1, x1⟩ <;> rcases c2 with ⟨g2, rfl⟩ | ⟨g2, w2, q2, n2, x2⟩ <;> rcases c3 with ⟨g3, rfl⟩ | ⟨g3, w3, q3, n3, x3⟩
        all_goals
          simp only [decide_eq_true_eq, decide_eq_false_iff_not] at g1 g2
          rw [g3]
          simp only [g1, g2, if_true, if_false, List.nil_append, List.append_nil, Bool.false_eq_true, List.cons_append]
          simp_all [putF, numB_itoa]
theorem read_some {s : List UInt8} {x : Ins} (h : readI s = some x) : MayI x ∧ lineI x = s := by
  unfold readI at h
  split at h
  · rename_i hc
    simp only [Bool.and_eq_true] at hc
    simp only [Option.some.injEq] at h
    obtain ⟨h1, h2⟩ := words_of (pieces_ne s) hc.1 (List.isEmpty_iff.1 hc.2)
    rw [h] at h1 h2
    refine ⟨h1, ?_⟩
    unfold lineI
    rw [h2, glue_pieces]
  · cases h
end Go.Proofs.YtkodeoocebimkaaDoor
