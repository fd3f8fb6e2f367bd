/-
  What List tells, Assemble makes the same words of; jumps. Plain: no program in sight. No condition.
-/
import Derived.Test.YtkodeoocebimkaaDoorIsPm
namespace Go.Proofs.YtkodeoocebimkaaDoor
set_option linter.unusedVariables false
set_option linter.unusedSimpArgs false

theorem mem_glue : ∀ (ws : List (List UInt8)) (c : UInt8), c ∈ glue ws → c = 32 ∨ ∃ w ∈ ws, c ∈ w
  | [], c, h => by cases h
  | [w], c, h => .inr ⟨w, List.mem_singleton.2 rfl, h⟩
  | w :: u :: ws, c, h => by
    rw [glue_two] at h
    rcases List.mem_append.1 h with h | h
    · exact .inr ⟨w, List.mem_cons_self .., h⟩
    · rcases List.mem_cons.1 h with rfl | h
      · exact .inl rfl
      · rcases mem_glue (u :: ws) c h with h | ⟨v, hv, hc⟩
        · exact .inl h
        · exact .inr ⟨v, List.mem_cons_of_mem _ hv, hc⟩
theorem itoa_char {n : Int} {c : UInt8} (h : c ∈ Lib.itoa n) : c ≠ 10 ∧ c ≠ 58 := by
  have hd : ∀ u, c ∈ Lib.decDigits u → c ≠ 10 ∧ c ≠ 58 := fun u hu => by
    have h1 := dec_digit hu
    refine ⟨fun e => ?_, fun e => ?_⟩
    · subst e; exact absurd h1.1 (by decide)
    · subst e; exact absurd h1.2 (by decide)
  unfold Lib.itoa at h
  split at h
  · rcases List.mem_cons.1 h with rfl | h
    · decide
    · exact hd _ h
  · exact hd _ h
theorem row_chars : ∀ k : Fin 31, ((rowF k.1).1.all fun c => c != 10 && c != 58) = true := by decide +kernel
theorem name_char {n : Int} {c : UInt8} (h : c ∈ nameI n) : c ≠ 10 ∧ c ≠ 58 := by
  have h1 := row_chars ⟨fR n, by have := fR_le n; omega⟩
  rw [List.all_eq_true] at h1
  have := h1 c h
  simpa using this
theorem line_char {x : Ins} {c : UInt8} (h : c ∈ lineI x) : c ≠ 10 ∧ c ≠ 58 := by
  rcases mem_glue _ _ h with rfl | ⟨w, hw, hc⟩
  · decide
  · unfold wordsI at hw
    rcases List.mem_cons.1 hw with rfl | hw
    · exact name_char hc
    · rcases List.mem_append.1 hw with hw | hw
      · split at hw
        · rw [List.mem_singleton.1 hw] at hc; exact itoa_char hc
        · cases hw
      · rcases List.mem_append.1 hw with hw | hw
        · split at hw
          · rw [List.mem_singleton.1 hw] at hc; exact itoa_char hc
          · cases hw
        · split at hw
          · rw [List.mem_singleton.1 hw] at hc; exact itoa_char hc
          · cases hw
theorem lineW_char {n : Int} {c : UInt8} (h : c ∈ lineW n) : c ≠ 10 ∧ c ≠ 58 := by
  unfold lineW at h
  split at h
  · exact line_char h
  · rcases List.mem_append.1 h with h | h
    · revert h
      unfold wordP
      intro h
      simp only [List.mem_cons, List.not_mem_nil, or_false] at h
      rcases h with rfl | rfl | rfl | rfl | rfl <;> decide
    · have h1 := dec_digit h
      refine ⟨fun e => ?_, fun e => ?_⟩
      · subst e; exact absurd h1.1 (by decide)
      · subst e; exact absurd h1.2 (by decide)
theorem cutSuf_no {c : UInt8} {l : List UInt8} (h : ∀ d ∈ l, d ≠ c) : cutSuf c l = none := by
  unfold cutSuf
  rw [if_neg]
  intro h1
  exact h c (List.mem_of_getLast? h1) rfl
theorem cutSuf_yes (c : UInt8) (l : List UInt8) : cutSuf c (l ++ [c]) = some l := by
  unfold cutSuf
  rw [if_pos (by simp)]
  simp
theorem row_word : ∀ k : Fin 31, (rowF k.1).1 ≠ [119, 111, 114, 100] := by decide +kernel
theorem line_noWord (x : Ins) : wordP.isPrefixOf (lineI x) = false := by
  rw [Bool.eq_false_iff]
  intro h
  obtain ⟨r, hr⟩ := List.isPrefixOf_iff_prefix.1 h
  have h1 := pieces_line x
  rw [← hr] at h1
  have h2 : wordP ++ r = [119, 111, 114, 100] ++ 32 :: r := rfl
  rw [h2, pieces_app (by decide)] at h1
  unfold wordsI at h1
  injection h1 with h1 _
  exact row_word ⟨fR x.op, by have := fR_le x.op; omega⟩ h1.symm
theorem take_line {p : PgS} {n : Int} (hn : RangeW n) (line : Int) (hp : p.words.length < 512) : takeP p (lineW n) line = (⟨p.words ++ [n], p.labs, p.jumps⟩, true) := by
  unfold takeP
  rw [cutSuf_no (fun d hd => (lineW_char hd).2)]
  simp only
  rw [if_neg (by omega)]
  by_cases hm : MayI (decI n)
  · have hl : lineW n = lineI (decI n) := if_pos hm
    rw [hl, if_neg (by rw [line_noWord]; decide), pieces_line, namedT_line hm]
    simp only [if_true]
    unfold encW
    rw [if_pos hm, enc_dec hn]
  · have hl : lineW n = wordP ++ Lib.decDigits n.toNat := if_neg hm
    have hd : (wordP ++ Lib.decDigits n.toNat).drop 5 = Lib.decDigits n.toNat := by
      show (wordP ++ Lib.decDigits n.toNat).drop wordP.length = _
      rw [List.drop_left']
      rfl
    unfold RangeW at hn
    have hi : Lib.itoa n = Lib.decDigits n.toNat := by unfold Lib.itoa; rw [if_neg (by omega)]
    obtain ⟨h1, h2⟩ := num_of_itoa (n := n) (by omega) (by omega)
    rw [hi] at h1 h2
    rw [hl, if_pos (by rw [List.isPrefixOf_iff_prefix]; exact List.prefix_append _ _), hd, h1, h2]
    rw [Int.emod_eq_of_lt hn.1 hn.2, decide_eq_true hn]
    rfl
theorem cutNl_end (l : List UInt8) : cutNl (l ++ [10]) = (l, true) := by
  unfold cutNl
  rw [cutSuf_yes]
theorem lns_list : ∀ (ws : List Int) (rest : List UInt8), lns (listP ws ++ rest) = ws.map (fun w => lineW w ++ [10]) ++ lns rest
  | [], rest => rfl
  | w :: ws, rest => by
    have h : listP (w :: ws) ++ rest = lineW w ++ 10 :: (listP ws ++ rest) := by
      unfold listP
      rw [List.flatMap_cons]
      simp
    rw [h, lns_cut _ (fun c hc => (lineW_char hc).1), lns_list ws rest]
    rfl
theorem runA_list : ∀ (ws : List Int) (p : PgS) (n : Int) (ls : List (List UInt8)), (∀ w ∈ ws, RangeW w) → p.words.length + ws.length ≤ 512 → runA p n (ws.map (fun w => lineW w ++ [10]) ++ ls) = runA ⟨p.words ++ ws, p.labs, p.jumps⟩ (n + ws.length) ls
  | [], p, n, ls, _, _ => by
    simp
  | w :: ws, p, n, ls, hr, hl => by
    rw [List.length_cons] at hl
    rw [List.map_cons, List.cons_append, runA, cutNl_end]
    simp only [if_true]
    rw [take_line (hr w (List.mem_cons_self ..)) _ (by omega)]
    simp only [if_true]
    rw [runA_list ws _ _ ls (fun v hv => hr v (List.mem_cons_of_mem _ hv)) (by simp only [List.length_append, List.length_cons, List.length_nil]; omega)]
    simp only [List.append_assoc, List.cons_append, List.nil_append, List.length_cons]
    congr 1
    omega
/-- A line that is taken, ahead of others. -/
theorem runA_one {p p' : PgS} {n : Int} {l : List UInt8} {ls : List (List UInt8)} (h : takeP p l (n + 1) = (p', true)) : runA p n ((l ++ [10]) :: ls) = runA p' (n + 1) ls := by
  rw [runA, cutNl_end]
  simp only [if_true]
  rw [h]
  simp
theorem asm_list {ws : List Int} (hr : ∀ w ∈ ws, RangeW w) (hl : ws.length ≤ 512) : asmP (listP ws) = (ws, 0, 0) := by
  have h1 := lns_list ws []
  rw [List.append_nil] at h1
  have h2 := runA_list ws pg0 0 [] hr (by show 0 + _ ≤ _; omega)
  unfold asmP
  rw [h1, show lns [] = [] from rfl, h2]
  simp [runA, pg0, fixJ]
def firstS : List UInt8 := [102, 105, 114, 115, 116, 58, 10]
def lastS : List UInt8 := [108, 97, 115, 116, 58, 10]
theorem take_first : takeP pg0 [102, 105, 114, 115, 116, 58] 1 = (⟨[], [([102, 105, 114, 115, 116], 0)], []⟩, true) := by decide +kernel
theorem take_lab {p : PgS} {n : List UInt8} {line : Int} (h1 : labO p.labs n = none) (h2 : nameB n = true) : takeP p (n ++ [58]) line = (⟨p.words, (n, p.words.length) :: p.labs, p.jumps⟩, true) := by
  unfold takeP
  rw [cutSuf_yes]
  simp [h1, h2]
theorem asm_labs {ws : List Int} (hr : ∀ w ∈ ws, RangeW w) (hl : ws.length ≤ 512) : asmP (firstS ++ (listP ws ++ lastS)) = (ws, 0, 0) := by
  have h0 : lns (firstS ++ (listP ws ++ lastS)) = ([102, 105, 114, 115, 116, 58] ++ [10]) :: (ws.map (fun w => lineW w ++ [10]) ++ [[108, 97, 115, 116, 58] ++ [10]]) := by
    have e : firstS ++ (listP ws ++ lastS) = [102, 105, 114, 115, 116, 58] ++ 10 :: (listP ws ++ lastS) := rfl
    rw [e, lns_cut _ (by decide), lns_list]
    rfl
  have h1 : runA pg0 0 (lns (firstS ++ (listP ws ++ lastS))) = (⟨ws, [([108, 97, 115, 116], (ws.length : Int)), ([102, 105, 114, 115, 116], 0)], []⟩, 0 + 1 + (ws.length : Int) + 1, true) := by
    rw [h0, runA_one take_first, runA_list ws _ _ _ hr (by show 0 + _ ≤ _; omega)]
    rw [runA_one (p' := ⟨ws, [([108, 97, 115, 116], (ws.length : Int)), ([102, 105, 114, 115, 116], 0)], []⟩) (by
      have := take_lab (p := ⟨[] ++ ws, [([102, 105, 114, 115, 116], 0)], []⟩) (n := [108, 97, 115, 116]) (line := 0 + 1 + (ws.length : Int) + 1) (show labO [([102, 105, 114, 115, 116], 0)] [108, 97, 115, 116] = none from by decide) (by decide)
      simpa using this)]
    rfl
  unfold asmP
  rw [h1]
  simp [fixJ]

/-! ## jumps -/
def xS : List UInt8 := [120, 58, 10]
def jS : List UInt8 := [106, 97, 108, 32, 51, 32, 120, 10, 106, 109, 112, 32, 121, 10]
def yS : List UInt8 := [121, 58, 10]
theorem named_jal : namedT (pieces [106, 97, 108, 32, 51, 32, 120]) = ⟨⟨22, 3, 0, 0⟩, [120], true⟩ := by decide +kernel
theorem named_jmp : namedT (pieces [106, 109, 112, 32, 121]) = ⟨⟨19, 0, 0, 0⟩, [121], true⟩ := by decide +kernel
theorem take_jal {p : PgS} {line : Int} (hp : p.words.length < 512) : takeP p [106, 97, 108, 32, 51, 32, 120] line = (⟨p.words ++ [372244480], p.labs, p.jumps ++ [⟨p.words.length, ⟨22, 3, 0, 0⟩, [120], line⟩]⟩, true) := by
  unfold takeP
  rw [show cutSuf 58 [106, 97, 108, 32, 51, 32, 120] = none from by decide]
  simp only
  rw [if_neg (by omega), if_neg (by decide), named_jal, show encW ⟨22, 3, 0, 0⟩ = 372244480 from by decide +kernel]
  simp
theorem take_jmp {p : PgS} {line : Int} (hp : p.words.length < 512) : takeP p [106, 109, 112, 32, 121] line = (⟨p.words ++ [318767104], p.labs, p.jumps ++ [⟨p.words.length, ⟨19, 0, 0, 0⟩, [121], line⟩]⟩, true) := by
  unfold takeP
  rw [show cutSuf 58 [106, 109, 112, 32, 121] = none from by decide]
  simp only
  rw [if_neg (by omega), if_neg (by decide), named_jmp, show encW ⟨19, 0, 0, 0⟩ = 318767104 from by decide +kernel]
  simp
theorem may_jal {k : Nat} (hk : k ≤ 200) : MayI ⟨22, 3, 0, 0 - (k : Int) - 1⟩ := by
  have e1 : fA (fR 22) = 7 := by decide +kernel
  have e2 : fB (fR 22) = -1 := by decide +kernel
  have e3 : fI (fR 22) = true := by decide +kernel
  refine ⟨⟨by simp only; omega, by simp only; omega⟩, ⟨by simp only; omega, ?_⟩, ⟨by simp only; omega, ?_⟩, .inr ⟨e3, ?_, ?_⟩⟩
  · show (3 : Int) ≤ max (fA (fR 22)) 0; rw [e1]; decide
  · show (0 : Int) ≤ max (fB (fR 22)) 0; rw [e2]; decide
  · show -32768 ≤ 0 - (k : Int) - 1; omega
  · show 0 - (k : Int) - 1 ≤ 32767; omega
theorem may_jmp {k : Int} (h0 : 0 ≤ k) (hk : k ≤ 200) : MayI ⟨19, 0, 0, k⟩ := by
  have e1 : fA (fR 19) = -1 := by decide +kernel
  have e2 : fB (fR 19) = -1 := by decide +kernel
  have e3 : fI (fR 19) = true := by decide +kernel
  refine ⟨⟨by simp only; omega, by simp only; omega⟩, ⟨by simp only; omega, ?_⟩, ⟨by simp only; omega, ?_⟩, .inr ⟨e3, ?_, ?_⟩⟩
  · show (0 : Int) ≤ max (fA (fR 19)) 0; rw [e1]; decide
  · show (0 : Int) ≤ max (fB (fR 19)) 0; rw [e2]; decide
  · show -32768 ≤ k; omega
  · show k ≤ 32767; omega
def jumpsW (a b : List Int) : List Int := a ++ (encI ⟨22, 3, 0, 0 - (a.length : Int) - 1⟩ :: encI ⟨19, 0, 0, (b.length : Int)⟩ :: b)
theorem asm_jumps {a b : List Int} (ha : ∀ w ∈ a, RangeW w) (hb : ∀ w ∈ b, RangeW w) (la : a.length ≤ 200) (lb : b.length ≤ 200) : asmP (xS ++ (listP a ++ (jS ++ (listP b ++ yS)))) = (jumpsW a b, 0, 0) := by
  have h0 : lns (xS ++ (listP a ++ (jS ++ (listP b ++ yS)))) = ([120, 58] ++ [10]) :: (a.map (fun w => lineW w ++ [10]) ++ (([106, 97, 108, 32, 51, 32, 120] ++ [10]) :: ([106, 109, 112, 32, 121] ++ [10]) :: (b.map (fun w => lineW w ++ [10]) ++ [[121, 58] ++ [10]]))) := by
    have e : xS ++ (listP a ++ (jS ++ (listP b ++ yS))) = [120, 58] ++ 10 :: (listP a ++ (jS ++ (listP b ++ yS))) := rfl
    rw [e, lns_cut _ (by decide), lns_list]
    have e2 : jS ++ (listP b ++ yS) = [106, 97, 108, 32, 51, 32, 120] ++ 10 :: ([106, 109, 112, 32, 121] ++ 10 :: (listP b ++ yS)) := rfl
    rw [e2, lns_cut _ (by decide), lns_cut _ (by decide), lns_list]
    rfl
  have h1 : runA pg0 0 (lns (xS ++ (listP a ++ (jS ++ (listP b ++ yS))))) = (⟨a ++ 372244480 :: 318767104 :: b, [([121], ((a ++ 372244480 :: 318767104 :: b).length : Int)), ([120], 0)], [⟨a.length, ⟨22, 3, 0, 0⟩, [120], 0 + 1 + (a.length : Int) + 1⟩, ⟨((a.length + 1 : Nat) : Int), ⟨19, 0, 0, 0⟩, [121], 0 + 1 + (a.length : Int) + 1 + 1⟩]⟩, 0 + 1 + (a.length : Int) + 1 + 1 + (b.length : Int) + 1, true) := by
    rw [h0, runA_one (p' := ⟨[], [([120], 0)], []⟩) (by decide +kernel), runA_list a _ _ _ ha (by show 0 + _ ≤ _; omega)]
    simp only [List.nil_append]
    rw [runA_one (take_jal (by show a.length < 512; omega)), runA_one (take_jmp (by simp; omega)), runA_list b _ _ _ hb (by simp; omega)]
    simp only
    have h2 := fun (ws : List Int) (js : List JmpS) (line : Int) => take_lab (p := ⟨ws, [([120], 0)], js⟩) (n := [121]) (line := line) (show labO [([120], 0)] [121] = none from by decide) (by decide)
    have e4 : ([[121, 58] ++ [10]] : List (List UInt8)) = [([121] ++ [58]) ++ [10]] := rfl
    rw [e4, runA_one (h2 _ _ _)]
    simp [runA]
  unfold asmP
  rw [h1]
  simp only [if_true]
  have e1 : fixJ [([121], ((a ++ 372244480 :: 318767104 :: b).length : Int)), ([120], 0)] [⟨a.length, ⟨22, 3, 0, 0⟩, [120], 0 + 1 + (a.length : Int) + 1⟩, ⟨((a.length + 1 : Nat) : Int), ⟨19, 0, 0, 0⟩, [121], 0 + 1 + (a.length : Int) + 1 + 1⟩] (a ++ 372244480 :: 318767104 :: b) = (jumpsW a b, none) := by
    have l1 : labO [([121], ((a ++ 372244480 :: 318767104 :: b).length : Int)), ([120], 0)] [120] = some 0 := by
      unfold labO
      rw [if_neg (by decide)]
      rfl
    have l2 : labO [([121], ((a ++ 372244480 :: 318767104 :: b).length : Int)), ([120], 0)] [121] = some ((a ++ 372244480 :: 318767104 :: b).length : Int) := by
      unfold labO
      rw [if_pos rfl]
    have j1 : jmpX ⟨a.length, ⟨22, 3, 0, 0⟩, [120], 0 + 1 + (a.length : Int) + 1⟩ 0 = ⟨22, 3, 0, 0 - (a.length : Int) - 1⟩ := rfl
    have j2 : jmpX ⟨((a.length + 1 : Nat) : Int), ⟨19, 0, 0, 0⟩, [121], 0 + 1 + (a.length : Int) + 1 + 1⟩ ((a ++ 372244480 :: 318767104 :: b).length : Int) = ⟨19, 0, 0, (b.length : Int)⟩ := by
      unfold jmpX
      simp only [List.length_append, List.length_cons, Ins.mk.injEq, true_and]
      omega
    simp only [fixJ, l1, l2]
    rw [j1, j2, if_pos (may_jal la), if_pos (may_jmp (by omega) (by omega))]
    congr 1
    unfold jumpsW
    show ((a ++ 372244480 :: 318767104 :: b).set (a.length : Int).toNat _).set ((a.length + 1 : Nat) : Int).toNat _ = _
    rw [Int.toNat_natCast, Int.toNat_natCast, List.set_append_right _ _ (Nat.le_refl _), List.set_append_right _ _ (by omega), Nat.sub_self, show a.length + 1 - a.length = 1 from by omega]
    rfl
  rw [e1]
end Go.Proofs.YtkodeoocebimkaaDoor
