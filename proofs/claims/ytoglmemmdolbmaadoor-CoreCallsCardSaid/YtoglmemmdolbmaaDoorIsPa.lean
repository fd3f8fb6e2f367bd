/-
  What List tells, Assemble makes the same words of; jumps. Plain: no program in sight. No condition.
-/
import Derived.Test.YtoglmemmdolbmaaDoorIsC
namespace Go.Proofs.YtoglmemmdolbmaaDoor.I
section
set_option linter.unusedVariables false
set_option linter.unusedSimpArgs false

theorem row_noBlank : ∀ k : Fin 31, ((rowF k.1).1.all fun c => c != 32) = true := by decide +kernel
theorem nameI_noBlank (n : Int) : ∀ c ∈ nameI n, c ≠ 32 := fun c hc => by
  have h := row_noBlank ⟨fR n, by have := fR_le n; omega⟩
  rw [List.all_eq_true] at h
  have := h c hc
  simpa using this
theorem words_noBlank (x : Ins) : ∀ w ∈ wordsI x, ∀ c ∈ w, c ≠ 32 := fun w hw => by
  unfold wordsI at hw
  rcases List.mem_cons.1 hw with rfl | hw
  · exact nameI_noBlank _
  · rcases List.mem_append.1 hw with hw | hw
    · split at hw
      · rw [List.mem_singleton.1 hw]; exact itoa_noBlank _
      · cases hw
    · rcases List.mem_append.1 hw with hw | hw
      · split at hw
        · rw [List.mem_singleton.1 hw]; exact itoa_noBlank _
        · cases hw
      · split at hw
        · rw [List.mem_singleton.1 hw]; exact itoa_noBlank _
        · cases hw
theorem pieces_line (x : Ins) : pieces (lineI x) = wordsI x := pieces_glue _ (by unfold wordsI; simp) (words_noBlank x)
theorem itoa_num {n : Int} (h0 : -40000 ≤ n) (h1 : n ≤ 40000) : numB (Lib.itoa n) = true ∧ numN (Lib.itoa n) = n := num_of_itoa (by omega) (by omega)
theorem stepN_no {j : Nat} {s : NmS} : stepN j false s = some s := rfl
theorem stepN_num {j : Nat} {s : NmS} {w : List UInt8} {r : List (List UInt8)} (hs : s.ws = w :: r) (hn : numB w = true) : stepN j true s = some ⟨r, putF s.x j (numN w), s.lab⟩ := by
  unfold stepN
  rw [if_pos rfl, hs]
  simp only [hn, if_true]
theorem nmO_line {x : Ins} (h : MayI x) : namedO (wordsI x) = some ⟨[], x, []⟩ := by
  have hs := may_small h
  have hop : opW ((wordsI x).getD 0 []) = fR x.op := by
    show opW (nameI x.op) = fR x.op
    have h1 := opW_name hs.1
    unfold fR
    rw [if_pos hs.1]
    omega
  have hk : fR x.op < 30 := by unfold fR; rw [if_pos hs.1]; omega
  unfold namedO
  rw [hop, if_pos hk]
  unfold nm3 nm2 nm1
  have h0 : nm0 (wordsI x) = ⟨(wordsI x).tail, ⟨fR x.op, 0, 0, 0⟩, []⟩ := by unfold nm0; rw [hop]
  rw [h0]
  have hxo : ((fR x.op : Nat) : Int) = x.op := by unfold fR; rw [if_pos hs.1]; omega
  rw [hxo]
  obtain ⟨na, nva⟩ := itoa_num (n := x.a) (by omega) (by omega)
  obtain ⟨nb, nvb⟩ := itoa_num (n := x.b) (by omega) (by omega)
  obtain ⟨nm, nvm⟩ := itoa_num (n := x.imm) (by omega) (by omega)
  obtain ⟨_, ha, hb, hm⟩ := h
  show (((some _).bind (stepN 0 (wantF (fR x.op) 0))).bind (stepN 1 (wantF (fR x.op) 1))).bind (stepN 2 (wantF (fR x.op) 2)) = _
  show ((stepN 0 (decide (0 ≤ fA (fR x.op))) _).bind (stepN 1 (decide (0 ≤ fB (fR x.op))))).bind (stepN 2 (fI (fR x.op))) = _
  have ht : (wordsI x).tail = (if 0 ≤ fA (fR x.op) then [Lib.itoa x.a] else []) ++ ((if 0 ≤ fB (fR x.op) then [Lib.itoa x.b] else []) ++ (if fI (fR x.op) = true then [Lib.itoa x.imm] else [])) := rfl
  rw [ht]
  obtain ⟨op, a, b, m⟩ := x
  simp only at *
  generalize fA (fR op) = fa at *
  generalize fB (fR op) = fb at *
  generalize fI (fR op) = fi at *
  have ea : ¬ 0 ≤ fa → a = 0 := fun h => by omega
  have eb : ¬ 0 ≤ fb → b = 0 := fun h => by omega
  have em : fi = false → m = 0 := fun h => hm.elim id (fun h2 => by rw [h] at h2; cases h2.1)
  clear ht hop h0 hs hxo ha hb hm
  have E0 : stepN 0 (decide (0 ≤ fa)) ⟨(if 0 ≤ fa then [Lib.itoa a] else []) ++ ((if 0 ≤ fb then [Lib.itoa b] else []) ++ (if fi = true then [Lib.itoa m] else [])), ⟨op, 0, 0, 0⟩, []⟩ = some ⟨(if 0 ≤ fb then [Lib.itoa b] else []) ++ (if fi = true then [Lib.itoa m] else []), ⟨op, a, 0, 0⟩, []⟩ := by
    by_cases h : 0 ≤ fa
    · rw [decide_eq_true h, if_pos h, stepN_num rfl na, nva]; rfl
    · rw [decide_eq_false h, if_neg h, stepN_no, ea h]; rfl
  have E1 : stepN 1 (decide (0 ≤ fb)) ⟨(if 0 ≤ fb then [Lib.itoa b] else []) ++ (if fi = true then [Lib.itoa m] else []), ⟨op, a, 0, 0⟩, []⟩ = some ⟨(if fi = true then [Lib.itoa m] else []), ⟨op, a, b, 0⟩, []⟩ := by
    by_cases h : 0 ≤ fb
    · rw [decide_eq_true h, if_pos h, stepN_num rfl nb, nvb]; rfl
    · rw [decide_eq_false h, if_neg h, stepN_no, eb h]; rfl
  have E2 : stepN 2 fi ⟨(if fi = true then [Lib.itoa m] else []), ⟨op, a, b, 0⟩, []⟩ = some ⟨[], ⟨op, a, b, m⟩, []⟩ := by
    cases fi with
    | true => rw [if_pos rfl, stepN_num rfl nm, nvm]; rfl
    | false => rw [em rfl, stepN_no]; rfl
  rw [E0]
  show ((stepN 1 _ _).bind _) = _
  rw [E1]
  exact E2
theorem namedT_line {x : Ins} (h : MayI x) : namedT (wordsI x) = ⟨x, [], true⟩ := by
  unfold namedT
  rw [nmO_line h]
  simp [h]
theorem read_line {x : Ins} (h : MayI x) : readI (lineI x) = some x := by
  unfold readI
  rw [pieces_line, namedT_line h]
  rfl

/-- What has been taken of numbers, for certain: no label. -/
theorem stepN_back {j : Nat} {want : Bool} {s s' : NmS} (h : stepN j want s = some s') (hl : s'.lab = []) : s.lab = [] ∧ ((want = false ∧ s' = s) ∨ (want = true ∧ ∃ w, s.ws = w :: s'.ws ∧ numB w = true ∧ s'.x = putF s.x j (numN w))) := by
  unfold stepN at h
  cases want with
  | false =>
    simp only [Bool.false_eq_true, if_false, Option.some.injEq] at h
    subst h
    exact ⟨hl, .inl ⟨rfl, rfl⟩⟩
  | true =>
    simp only [if_true] at h
    cases hw : s.ws with
    | nil => rw [hw] at h; cases h
    | cons w r =>
      rw [hw] at h
      simp only at h
      split at h
      · rename_i hn
        simp only [Option.some.injEq] at h
        subst h
        exact ⟨hl, .inr ⟨rfl, w, rfl, hn, rfl⟩⟩
      · split at h
        · rename_i hc
          simp only [Option.some.injEq] at h
          subst h
          simp only at hl
          have h3 := hc.2.2
          rw [hl] at h3
          exact absurd h3 (by decide)
        · cases h
theorem words_of {ws : List (List UInt8)} (hne : ws ≠ []) (hi : (namedT ws).is = true) (hl : (namedT ws).lab = []) : MayI (namedT ws).x ∧ wordsI (namedT ws).x = ws := by
  have hk : opW (ws.getD 0 []) < 30 := by
    by_cases h : opW (ws.getD 0 []) < 30
    · exact h
    · exfalso
      unfold namedT namedO at hi
      rw [if_neg h] at hi
      cases hi
  obtain ⟨k, hkk⟩ : ∃ k, opW (ws.getD 0 []) = k := ⟨_, rfl⟩
  have hO := namedO_st hk
  rw [hkk] at hO hk
  cases h3 : stN k ws 3 with
  | none =>
    exfalso
    unfold namedT at hi
    rw [hO, h3] at hi
    cases hi
  | some s3 =>
    have hT : namedT ws = ⟨s3.x, s3.lab, s3.ws.isEmpty && decide (MayI s3.x)⟩ := by unfold namedT; rw [hO, h3]
    rw [hT] at hi hl ⊢
    simp only [Bool.and_eq_true, decide_eq_true_eq] at hi hl ⊢
    refine ⟨hi.2, ?_⟩
    have hem : s3.ws = [] := List.isEmpty_iff.1 hi.1
    cases h2 : stN k ws 2 with
    | none => unfold stN at h3; rw [h2] at h3; cases h3
    | some s2 =>
      cases h1 : stN k ws 1 with
      | none => unfold stN at h2; rw [h1] at h2; cases h2
      | some s1 =>
        have e3 : stepN 2 (wantF k 2) s2 = some s3 := by unfold stN at h3; rw [h2] at h3; exact h3
        have e2 : stepN 1 (wantF k 1) s1 = some s2 := by unfold stN at h2; rw [h1] at h2; exact h2
        have e1 : stepN 0 (wantF k 0) (nm0 ws) = some s1 := by unfold stN at h1; exact h1
        obtain ⟨l2, c3⟩ := stepN_back e3 hl
        obtain ⟨l1, c2⟩ := stepN_back e2 l2
        obtain ⟨_, c1⟩ := stepN_back e1 l1
        obtain ⟨w0, r0, hw⟩ : ∃ w0 r0, ws = w0 :: r0 := by
          cases ws with
          | nil => exact absurd rfl hne
          | cons a b => exact ⟨a, b, rfl⟩
        subst hw
        have hn0 : nm0 (w0 :: r0) = ⟨r0, ⟨k, 0, 0, 0⟩, []⟩ := by unfold nm0; rw [hkk]; rfl
        rw [hn0] at c1
        have hname : nameI (k : Int) = w0 := by
          have := nameI_opW (l := w0) (by show opW w0 < 30; have : opW w0 = k := hkk; omega)
          rw [show opW w0 = k from hkk] at this
          exact this
        have hfr : fR (k : Int) = k := fR_in hk
        have hx0 : s3.x.op = (k : Int) := by
          rcases c3 with ⟨_, rfl⟩ | ⟨_, w3, _, _, e⟩
          · rcases c2 with ⟨_, rfl⟩ | ⟨_, w2, _, _, e2'⟩
            · rcases c1 with ⟨_, rfl⟩ | ⟨_, w1, _, _, e1'⟩
              · rfl
              · rw [e1', putF_op]
            · rw [e2', putF_op]
              rcases c1 with ⟨_, rfl⟩ | ⟨_, w1, _, _, e1'⟩
              · rfl
              · rw [e1', putF_op]
          · rw [e, putF_op]
            rcases c2 with ⟨_, rfl⟩ | ⟨_, w2, _, _, e2'⟩
            · rcases c1 with ⟨_, rfl⟩ | ⟨_, w1, _, _, e1'⟩
              · rfl
              · rw [e1', putF_op]
            · rw [e2', putF_op]
              rcases c1 with ⟨_, rfl⟩ | ⟨_, w1, _, _, e1'⟩
              · rfl
              · rw [e1', putF_op]
        unfold wordsI
        rw [hx0, hname, hfr]
        congr 1
        have d0 : wantF k 0 = decide (0 ≤ fA k) := rfl
        have d1 : wantF k 1 = decide (0 ≤ fB k) := rfl
        have d2 : wantF k 2 = fI k := rfl
        rw [d0] at c1
        rw [d1] at c2
        rw [d2] at c3
        rcases c1 with ⟨g1, rfl⟩ | ⟨g1, w1, q1, n1, x1⟩ <;> rcases c2 with ⟨g2, rfl⟩ | ⟨g2, w2, q2, n2, x2⟩ <;> rcases c3 with ⟨g3, rfl⟩ | ⟨g3, w3, q3, n3, x3⟩
        all_goals
          simp only [decide_eq_true_eq, decide_eq_false_iff_not] at g1 g2
          rw [g3]
          simp only [g1, g2, if_true, if_false, List.nil_append, List.append_nil, Bool.false_eq_true, List.cons_append]
          simp_all [putF, numB_itoa]
theorem read_some {s : List UInt8} {x : Ins} (h : readI s = some x) : MayI x ∧ lineI x = s := by
  unfold readI at h
  split at h
  · rename_i hc
    simp only [Bool.and_eq_true] at hc
    simp only [Option.some.injEq] at h
    obtain ⟨h1, h2⟩ := words_of (pieces_ne s) hc.1 (List.isEmpty_iff.1 hc.2)
    rw [h] at h1 h2
    refine ⟨h1, ?_⟩
    unfold lineI
    rw [h2, glue_pieces]
  · cases h
end
end Go.Proofs.YtoglmemmdolbmaaDoor.I
namespace Go.Proofs.YtoglmemmdolbmaaDoor.I
section
set_option linter.unusedVariables false
set_option linter.unusedSimpArgs false

theorem mem_glue : ∀ (ws : List (List UInt8)) (c : UInt8), c ∈ glue ws → c = 32 ∨ ∃ w ∈ ws, c ∈ w
  | [], c, h => by cases h
  | [w], c, h => .inr ⟨w, List.mem_singleton.2 rfl, h⟩
  | w :: u :: ws, c, h => by
    rw [glue_two] at h
    rcases List.mem_append.1 h with h | h
    · exact .inr ⟨w, List.mem_cons_self .., h⟩
    · rcases List.mem_cons.1 h with rfl | h
      · exact .inl rfl
      · rcases mem_glue (u :: ws) c h with h | ⟨v, hv, hc⟩
        · exact .inl h
        · exact .inr ⟨v, List.mem_cons_of_mem _ hv, hc⟩
theorem itoa_char {n : Int} {c : UInt8} (h : c ∈ Lib.itoa n) : c ≠ 10 ∧ c ≠ 58 := by
  have hd : ∀ u, c ∈ Lib.decDigits u → c ≠ 10 ∧ c ≠ 58 := fun u hu => by
    have h1 := dec_digit hu
    refine ⟨fun e => ?_, fun e => ?_⟩
    · subst e; exact absurd h1.1 (by decide)
    · subst e; exact absurd h1.2 (by decide)
  unfold Lib.itoa at h
  split at h
  · rcases List.mem_cons.1 h with rfl | h
    · decide
    · exact hd _ h
  · exact hd _ h
theorem row_chars : ∀ k : Fin 31, ((rowF k.1).1.all fun c => c != 10 && c != 58) = true := by decide +kernel
theorem name_char {n : Int} {c : UInt8} (h : c ∈ nameI n) : c ≠ 10 ∧ c ≠ 58 := by
  have h1 := row_chars ⟨fR n, by have := fR_le n; omega⟩
  rw [List.all_eq_true] at h1
  have := h1 c h
  simpa using this
theorem line_char {x : Ins} {c : UInt8} (h : c ∈ lineI x) : c ≠ 10 ∧ c ≠ 58 := by
  rcases mem_glue _ _ h with rfl | ⟨w, hw, hc⟩
  · decide
  · unfold wordsI at hw
    rcases List.mem_cons.1 hw with rfl | hw
    · exact name_char hc
    · rcases List.mem_append.1 hw with hw | hw
      · split at hw
        · rw [List.mem_singleton.1 hw] at hc; exact itoa_char hc
        · cases hw
      · rcases List.mem_append.1 hw with hw | hw
        · split at hw
          · rw [List.mem_singleton.1 hw] at hc; exact itoa_char hc
          · cases hw
        · split at hw
          · rw [List.mem_singleton.1 hw] at hc; exact itoa_char hc
          · cases hw
theorem lineW_char {n : Int} {c : UInt8} (h : c ∈ lineW n) : c ≠ 10 ∧ c ≠ 58 := by
  unfold lineW at h
  split at h
  · exact line_char h
  · rcases List.mem_append.1 h with h | h
    · revert h
      unfold wordP
      intro h
      simp only [List.mem_cons, List.not_mem_nil, or_false] at h
      rcases h with rfl | rfl | rfl | rfl | rfl <;> decide
    · have h1 := dec_digit h
      refine ⟨fun e => ?_, fun e => ?_⟩
      · subst e; exact absurd h1.1 (by decide)
      · subst e; exact absurd h1.2 (by decide)
theorem cutSuf_no {c : UInt8} {l : List UInt8} (h : ∀ d ∈ l, d ≠ c) : cutSuf c l = none := by
  unfold cutSuf
  rw [if_neg]
  intro h1
  exact h c (List.mem_of_getLast? h1) rfl
theorem cutSuf_yes (c : UInt8) (l : List UInt8) : cutSuf c (l ++ [c]) = some l := by
  unfold cutSuf
  rw [if_pos (by simp)]
  simp
theorem row_word : ∀ k : Fin 31, (rowF k.1).1 ≠ [119, 111, 114, 100] := by decide +kernel
theorem line_noWord (x : Ins) : wordP.isPrefixOf (lineI x) = false := by
  rw [Bool.eq_false_iff]
  intro h
  obtain ⟨r, hr⟩ := List.isPrefixOf_iff_prefix.1 h
  have h1 := pieces_line x
  rw [← hr] at h1
  have h2 : wordP ++ r = [119, 111, 114, 100] ++ 32 :: r := rfl
  rw [h2, pieces_app (by decide)] at h1
  unfold wordsI at h1
  injection h1 with h1 _
  exact row_word ⟨fR x.op, by have := fR_le x.op; omega⟩ h1.symm
theorem take_line {p : PgS} {n : Int} (hn : RangeW n) (line : Int) (hp : p.words.length < 512) : takeP p (lineW n) line = (⟨p.words ++ [n], p.labs, p.jumps⟩, true) := by
  unfold takeP
  rw [cutSuf_no (fun d hd => (lineW_char hd).2)]
  simp only
  rw [if_neg (by omega)]
  by_cases hm : MayI (decI n)
  · have hl : lineW n = lineI (decI n) := if_pos hm
    rw [hl, if_neg (by rw [line_noWord]; decide), pieces_line, namedT_line hm]
    simp only [if_true]
    unfold encW
    rw [if_pos hm, enc_dec hn]
  · have hl : lineW n = wordP ++ Lib.decDigits n.toNat := if_neg hm
    have hd : (wordP ++ Lib.decDigits n.toNat).drop 5 = Lib.decDigits n.toNat := by
      show (wordP ++ Lib.decDigits n.toNat).drop wordP.length = _
      rw [List.drop_left']
      rfl
    unfold RangeW at hn
    have hi : Lib.itoa n = Lib.decDigits n.toNat := by unfold Lib.itoa; rw [if_neg (by omega)]
    obtain ⟨h1, h2⟩ := num_of_itoa (n := n) (by omega) (by omega)
    rw [hi] at h1 h2
    rw [hl, if_pos (by rw [List.isPrefixOf_iff_prefix]; exact List.prefix_append _ _), hd, h1, h2]
    rw [Int.emod_eq_of_lt hn.1 hn.2, decide_eq_true hn]
    rfl
theorem cutNl_end (l : List UInt8) : cutNl (l ++ [10]) = (l, true) := by
  unfold cutNl
  rw [cutSuf_yes]
theorem lns_list : ∀ (ws : List Int) (rest : List UInt8), lns (listP ws ++ rest) = ws.map (fun w => lineW w ++ [10]) ++ lns rest
  | [], rest => rfl
  | w :: ws, rest => by
    have h : listP (w :: ws) ++ rest = lineW w ++ 10 :: (listP ws ++ rest) := by
      unfold listP
      rw [List.flatMap_cons]
      simp
    rw [h, lns_cut _ (fun c hc => (lineW_char hc).1), lns_list ws rest]
    rfl
theorem runA_list : ∀ (ws : List Int) (p : PgS) (n : Int) (ls : List (List UInt8)), (∀ w ∈ ws, RangeW w) → p.words.length + ws.length ≤ 512 → runA p n (ws.map (fun w => lineW w ++ [10]) ++ ls) = runA ⟨p.words ++ ws, p.labs, p.jumps⟩ (n + ws.length) ls
  | [], p, n, ls, _, _ => by
    simp
  | w :: ws, p, n, ls, hr, hl => by
    rw [List.length_cons] at hl
    rw [List.map_cons, List.cons_append, runA, cutNl_end]
    simp only [if_true]
    rw [take_line (hr w (List.mem_cons_self ..)) _ (by omega)]
    simp only [if_true]
    rw [runA_list ws _ _ ls (fun v hv => hr v (List.mem_cons_of_mem _ hv)) (by simp only [List.length_append, List.length_cons, List.length_nil]; omega)]
    simp only [List.append_assoc, List.cons_append, List.nil_append, List.length_cons]
    congr 1
    omega
/-- A line that is taken, ahead of others. -/
theorem runA_one {p p' : PgS} {n : Int} {l : List UInt8} {ls : List (List UInt8)} (h : takeP p l (n + 1) = (p', true)) : runA p n ((l ++ [10]) :: ls) = runA p' (n + 1) ls := by
  rw [runA, cutNl_end]
  simp only [if_true]
  rw [h]
  simp
theorem asm_list {ws : List Int} (hr : ∀ w ∈ ws, RangeW w) (hl : ws.length ≤ 512) : asmP (listP ws) = (ws, 0, 0) := by
  have h1 := lns_list ws []
  rw [List.append_nil] at h1
  have h2 := runA_list ws pg0 0 [] hr (by show 0 + _ ≤ _; omega)
  unfold asmP
  rw [h1, show lns [] = [] from rfl, h2]
  simp [runA, pg0, fixJ]
def firstS : List UInt8 := [102, 105, 114, 115, 116, 58, 10]
def lastS : List UInt8 := [108, 97, 115, 116, 58, 10]
theorem take_first : takeP pg0 [102, 105, 114, 115, 116, 58] 1 = (⟨[], [([102, 105, 114, 115, 116], 0)], []⟩, true) := by decide +kernel
theorem take_lab {p : PgS} {n : List UInt8} {line : Int} (h1 : labO p.labs n = none) (h2 : nameB n = true) : takeP p (n ++ [58]) line = (⟨p.words, (n, p.words.length) :: p.labs, p.jumps⟩, true) := by
  unfold takeP
  rw [cutSuf_yes]
  simp [h1, h2]
theorem asm_labs {ws : List Int} (hr : ∀ w ∈ ws, RangeW w) (hl : ws.length ≤ 512) : asmP (firstS ++ (listP ws ++ lastS)) = (ws, 0, 0) := by
  have h0 : lns (firstS ++ (listP ws ++ lastS)) = ([102, 105, 114, 115, 116, 58] ++ [10]) :: (ws.map (fun w => lineW w ++ [10]) ++ [[108, 97, 115, 116, 58] ++ [10]]) := by
    have e : firstS ++ (listP ws ++ lastS) = [102, 105, 114, 115, 116, 58] ++ 10 :: (listP ws ++ lastS) := rfl
    rw [e, lns_cut _ (by decide), lns_list]
    rfl
  have h1 : runA pg0 0 (lns (firstS ++ (listP ws ++ lastS))) = (⟨ws, [([108, 97, 115, 116], (ws.length : Int)), ([102, 105, 114, 115, 116], 0)], []⟩, 0 + 1 + (ws.length : Int) + 1, true) := by
    rw [h0, runA_one take_first, runA_list ws _ _ _ hr (by show 0 + _ ≤ _; omega)]
    rw [runA_one (p' := ⟨ws, [([108, 97, 115, 116], (ws.length : Int)), ([102, 105, 114, 115, 116], 0)], []⟩) (by
      have := take_lab (p := ⟨[] ++ ws, [([102, 105, 114, 115, 116], 0)], []⟩) (n := [108, 97, 115, 116]) (line := 0 + 1 + (ws.length : Int) + 1) (show labO [([102, 105, 114, 115, 116], 0)] [108, 97, 115, 116] = none from by decide) (by decide)
      simpa using this)]
    rfl
  unfold asmP
  rw [h1]
  simp [fixJ]

/-! ## jumps -/
def xS : List UInt8 := [120, 58, 10]
def jS : List UInt8 := [106, 97, 108, 32, 51, 32, 120, 10, 106, 109, 112, 32, 121, 10]
def yS : List UInt8 := [121, 58, 10]
theorem named_jal : namedT (pieces [106, 97, 108, 32, 51, 32, 120]) = ⟨⟨22, 3, 0, 0⟩, [120], true⟩ := by decide +kernel
theorem named_jmp : namedT (pieces [106, 109, 112, 32, 121]) = ⟨⟨19, 0, 0, 0⟩, [121], true⟩ := by decide +kernel
theorem take_jal {p : PgS} {line : Int} (hp : p.words.length < 512) : takeP p [106, 97, 108, 32, 51, 32, 120] line = (⟨p.words ++ [372244480], p.labs, p.jumps ++ [⟨p.words.length, ⟨22, 3, 0, 0⟩, [120], line⟩]⟩, true) := by
  unfold takeP
  rw [show cutSuf 58 [106, 97, 108, 32, 51, 32, 120] = none from by decide]
  simp only
  rw [if_neg (by omega), if_neg (by decide), named_jal, show encW ⟨22, 3, 0, 0⟩ = 372244480 from by decide +kernel]
  simp
theorem take_jmp {p : PgS} {line : Int} (hp : p.words.length < 512) : takeP p [106, 109, 112, 32, 121] line = (⟨p.words ++ [318767104], p.labs, p.jumps ++ [⟨p.words.length, ⟨19, 0, 0, 0⟩, [121], line⟩]⟩, true) := by
  unfold takeP
  rw [show cutSuf 58 [106, 109, 112, 32, 121] = none from by decide]
  simp only
  rw [if_neg (by omega), if_neg (by decide), named_jmp, show encW ⟨19, 0, 0, 0⟩ = 318767104 from by decide +kernel]
  simp
theorem may_jal {k : Nat} (hk : k ≤ 200) : MayI ⟨22, 3, 0, 0 - (k : Int) - 1⟩ := by
  have e1 : fA (fR 22) = 7 := by decide +kernel
  have e2 : fB (fR 22) = -1 := by decide +kernel
  have e3 : fI (fR 22) = true := by decide +kernel
  refine ⟨⟨by simp only; omega, by simp only; omega⟩, ⟨by simp only; omega, ?_⟩, ⟨by simp only; omega, ?_⟩, .inr ⟨e3, ?_, ?_⟩⟩
  · show (3 : Int) ≤ max (fA (fR 22)) 0; rw [e1]; decide
  · show (0 : Int) ≤ max (fB (fR 22)) 0; rw [e2]; decide
  · show -32768 ≤ 0 - (k : Int) - 1; omega
  · show 0 - (k : Int) - 1 ≤ 32767; omega
theorem may_jmp {k : Int} (h0 : 0 ≤ k) (hk : k ≤ 200) : MayI ⟨19, 0, 0, k⟩ := by
  have e1 : fA (fR 19) = -1 := by decide +kernel
  have e2 : fB (fR 19) = -1 := by decide +kernel
  have e3 : fI (fR 19) = true := by decide +kernel
  refine ⟨⟨by simp only; omega, by simp only; omega⟩, ⟨by simp only; omega, ?_⟩, ⟨by simp only; omega, ?_⟩, .inr ⟨e3, ?_, ?_⟩⟩
  · show (0 : Int) ≤ max (fA (fR 19)) 0; rw [e1]; decide
  · show (0 : Int) ≤ max (fB (fR 19)) 0; rw [e2]; decide
  · show -32768 ≤ k; omega
  · show k ≤ 32767; omega
def jumpsW (a b : List Int) : List Int := a ++ (encI ⟨22, 3, 0, 0 - (a.length : Int) - 1⟩ :: encI ⟨19, 0, 0, (b.length : Int)⟩ :: b)
theorem asm_jumps {a b : List Int} (ha : ∀ w ∈ a, RangeW w) (hb : ∀ w ∈ b, RangeW w) (la : a.length ≤ 200) (lb : b.length ≤ 200) : asmP (xS ++ (listP a ++ (jS ++ (listP b ++ yS)))) = (jumpsW a b, 0, 0) := by
  have h0 : lns (xS ++ (listP a ++ (jS ++ (listP b ++ yS)))) = ([120, 58] ++ [10]) :: (a.map (fun w => lineW w ++ [10]) ++ (([106, 97, 108, 32, 51, 32, 120] ++ [10]) :: ([106, 109, 112, 32, 121] ++ [10]) :: (b.map (fun w => lineW w ++ [10]) ++ [[121, 58] ++ [10]]))) := by
    have e : xS ++ (listP a ++ (jS ++ (listP b ++ yS))) = [120, 58] ++ 10 :: (listP a ++ (jS ++ (listP b ++ yS))) := rfl
    rw [e, lns_cut _ (by decide), lns_list]
    have e2 : jS ++ (listP b ++ yS) = [106, 97, 108, 32, 51, 32, 120] ++ 10 :: ([106, 109, 112, 32, 121] ++ 10 :: (listP b ++ yS)) := rfl
    rw [e2, lns_cut _ (by decide), lns_cut _ (by decide), lns_list]
    rfl
  have h1 : runA pg0 0 (lns (xS ++ (listP a ++ (jS ++ (listP b ++ yS))))) = (⟨a ++ 372244480 :: 318767104 :: b, [([121], ((a ++ 372244480 :: 318767104 :: b).length : Int)), ([120], 0)], [⟨a.length, ⟨22, 3, 0, 0⟩, [120], 0 + 1 + (a.length : Int) + 1⟩, ⟨((a.length + 1 : Nat) : Int), ⟨19, 0, 0, 0⟩, [121], 0 + 1 + (a.length : Int) + 1 + 1⟩]⟩, 0 + 1 + (a.length : Int) + 1 + 1 + (b.length : Int) + 1, true) := by
    rw [h0, runA_one (p' := ⟨[], [([120], 0)], []⟩) (by decide +kernel), runA_list a _ _ _ ha (by show 0 + _ ≤ _; omega)]
    simp only [List.nil_append]
    rw [runA_one (take_jal (by show a.length < 512; omega)), runA_one (take_jmp (by simp; omega)), runA_list b _ _ _ hb (by simp; omega)]
    simp only
    have h2 := fun (ws : List Int) (js : List JmpS) (line : Int) => take_lab (p := ⟨ws, [([120], 0)], js⟩) (n := [121]) (line := line) (show labO [([120], 0)] [121] = none from by decide) (by decide)
    have e4 : ([[121, 58] ++ [10]] : List (List UInt8)) = [([121] ++ [58]) ++ [10]] := rfl
    rw [e4, runA_one (h2 _ _ _)]
    simp [runA]
  unfold asmP
  rw [h1]
  simp only [if_true]
  have e1 : fixJ [([121], ((a ++ 372244480 :: 318767104 :: b).length : Int)), ([120], 0)] [⟨a.length, ⟨22, 3, 0, 0⟩, [120], 0 + 1 + (a.length : Int) + 1⟩, ⟨((a.length + 1 : Nat) : Int), ⟨19, 0, 0, 0⟩, [121], 0 + 1 + (a.length : Int) + 1 + 1⟩] (a ++ 372244480 :: 318767104 :: b) = (jumpsW a b, none) := by
    have l1 : labO [([121], ((a ++ 372244480 :: 318767104 :: b).length : Int)), ([120], 0)] [120] = some 0 := by
      unfold labO
      rw [if_neg (by decide)]
      rfl
    have l2 : labO [([121], ((a ++ 372244480 :: 318767104 :: b).length : Int)), ([120], 0)] [121] = some ((a ++ 372244480 :: 318767104 :: b).length : Int) := by
      unfold labO
      rw [if_pos rfl]
    have j1 : jmpX ⟨a.length, ⟨22, 3, 0, 0⟩, [120], 0 + 1 + (a.length : Int) + 1⟩ 0 = ⟨22, 3, 0, 0 - (a.length : Int) - 1⟩ := rfl
    have j2 : jmpX ⟨((a.length + 1 : Nat) : Int), ⟨19, 0, 0, 0⟩, [121], 0 + 1 + (a.length : Int) + 1 + 1⟩ ((a ++ 372244480 :: 318767104 :: b).length : Int) = ⟨19, 0, 0, (b.length : Int)⟩ := by
      unfold jmpX
      simp only [List.length_append, List.length_cons, Ins.mk.injEq, true_and]
      omega
    simp only [fixJ, l1, l2]
    rw [j1, j2, if_pos (may_jal la), if_pos (may_jmp (by omega) (by omega))]
    congr 1
    unfold jumpsW
    show ((a ++ 372244480 :: 318767104 :: b).set (a.length : Int).toNat _).set ((a.length + 1 : Nat) : Int).toNat _ = _
    rw [Int.toNat_natCast, Int.toNat_natCast, List.set_append_right _ _ (Nat.le_refl _), List.set_append_right _ _ (by omega), Nat.sub_self, show a.length + 1 - a.length = 1 from by omega]
    rfl
  rw [e1]
end
end Go.Proofs.YtoglmemmdolbmaaDoor.I
