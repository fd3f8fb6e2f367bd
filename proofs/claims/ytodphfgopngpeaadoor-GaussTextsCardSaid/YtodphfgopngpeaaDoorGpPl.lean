/-
  Texts of Gaussian numbers in plain words: how they look, the last sign in them, what their two numerals say. No condition.
-/
import Derived.Test.YtodphfgopngpeaaDoorWords
namespace Go.Proofs.YtodphfgopngpeaaDoor
set_option linter.unusedVariables false

/-- The text of a number of these parts. -/
def signG (q : Int) : List UInt8 := if q < 0 then [] else [43]
def textG (p q : Int) : List UInt8 := Lib.itoa p ++ signG q ++ Lib.itoa q ++ [105]
/-- A sign. -/
def PM (b : UInt8) : Prop := b = 43 ∨ b = 45
/-- The last sign's place; -1: there is none. -/
def LastP (l : List UInt8) (i : Int) : Prop := (i = -1 ∧ ∀ (j : Nat) (b : UInt8), l[j]? = some b → ¬ PM b) ∨ ∃ n : Nat, i = n ∧ (∃ b : UInt8, l[n]? = some b ∧ PM b) ∧ ∀ (j : Nat) (b : UInt8), n < j → l[j]? = some b → ¬ PM b
theorem lastP_one {l : List UInt8} {i j : Int} (h : LastP l i) (k : LastP l j) : i = j := by
  rcases h with ⟨rfl, h⟩ | ⟨n, rfl, ⟨b, hb, hp⟩, hn⟩
  · rcases k with ⟨rfl, _⟩ | ⟨m, rfl, ⟨c, hc, hq⟩, _⟩
    · rfl
    · exact absurd hq (h m c hc)
  · rcases k with ⟨rfl, k⟩ | ⟨m, rfl, ⟨c, hc, hq⟩, hm⟩
    · exact absurd hp (k n b hb)
    · rcases Nat.lt_trichotomy n m with hlt | rfl | hlt
      · exact absurd hq (hn m c hlt hc)
      · rfl
      · exact absurd hp (hm n b hlt hb)
/-- The sign of the second part, and its digits. -/
theorem tail_eq (q : Int) : ∃ s : UInt8, PM s ∧ (s = 45 ↔ q < 0) ∧ signG q ++ Lib.itoa q = s :: Lib.decDigits q.natAbs := by
  unfold signG Lib.itoa
  by_cases h : q < 0
  · rw [if_pos h, if_pos h]
    exact ⟨45, .inr rfl, ⟨fun _ => h, fun _ => rfl⟩, rfl⟩
  · rw [if_neg h, if_neg h]
    refine ⟨43, .inl rfl, ⟨fun e => absurd e (by decide), fun e => absurd e h⟩, ?_⟩
    rw [show q.toNat = q.natAbs by omega]
    rfl
theorem text_eq (p q : Int) : ∃ s : UInt8, PM s ∧ (s = 45 ↔ q < 0) ∧ textG p q = Lib.itoa p ++ (s :: (Lib.decDigits q.natAbs ++ [105])) ∧ signG q ++ Lib.itoa q = s :: Lib.decDigits q.natAbs := by
  obtain ⟨s, h1, h2, h3⟩ := tail_eq q
  refine ⟨s, h1, h2, ?_, h3⟩
  unfold textG
  rw [List.append_assoc (Lib.itoa p), h3, List.append_assoc, List.cons_append]
theorem noPM_dec {u : Nat} {c : UInt8} (h : c ∈ Lib.decDigits u) : ¬ PM c := by
  have hd := dec_digit h
  rintro (rfl | rfl)
  · exact absurd hd.1 (by decide)
  · exact absurd hd.1 (by decide)
theorem last_text (p q : Int) : LastP (textG p q) ((Lib.itoa p).length : Int) := by
  obtain ⟨s, hs, _, he, _⟩ := text_eq p q
  refine .inr ⟨(Lib.itoa p).length, rfl, ⟨s, ?_, hs⟩, fun j b hj hb => ?_⟩
  · rw [he, List.getElem?_append_right (Nat.le_refl _), Nat.sub_self]
    rfl
  · rw [he, List.getElem?_append_right (by omega)] at hb
    obtain ⟨k, hk⟩ : ∃ k, j - (Lib.itoa p).length = k + 1 := ⟨j - (Lib.itoa p).length - 1, by omega⟩
    rw [hk, List.getElem?_cons_succ] at hb
    have hm := List.mem_of_getElem? hb
    rcases List.mem_append.1 hm with h | h
    · exact noPM_dec h
    · have : b = 105 := by simpa using h
      subst this
      rintro (h | h) <;> exact absurd h (by decide)
theorem itoa_asc {p : Int} {c : UInt8} (h : c ∈ Lib.itoa p) : c.toNat < 128 := by
  unfold Lib.itoa at h
  by_cases hp : p < 0
  · rw [if_pos hp] at h
    rcases List.mem_cons.1 h with rfl | h
    · decide
    · have := dec_digit h; omega
  · rw [if_neg hp] at h
    have := dec_digit h; omega
theorem text_asc {p q : Int} {c : UInt8} (h : c ∈ textG p q) : c.toNat < 128 := by
  unfold textG signG at h
  rcases List.mem_append.1 h with h | h
  · rcases List.mem_append.1 h with h | h
    · rcases List.mem_append.1 h with h | h
      · exact itoa_asc h
      · by_cases hq : q < 0
        · rw [if_pos hq] at h; exact absurd h List.not_mem_nil
        · rw [if_neg hq] at h
          have : c = 43 := by simpa using h
          subst this; decide
    · exact itoa_asc h
  · have : c = 105 := by simpa using h
    subst this; decide
theorem itoa_pos (p : Int) : 1 ≤ (Lib.itoa p).length := by
  unfold Lib.itoa
  by_cases hp : p < 0
  · rw [if_pos hp, List.length_cons]; omega
  · rw [if_neg hp, Lib.decDigits_length]; exact Lib.nDigits_pos _
theorem text_len (p q : Int) : (textG p q).length = (Lib.itoa p).length + 1 + (Lib.decDigits q.natAbs).length + 1 := by
  obtain ⟨s, _, _, he, _⟩ := text_eq p q
  rw [he]
  simp only [List.length_append, List.length_cons, List.length_nil]
  omega
theorem text_head (p q : Int) : (textG p q).take (Lib.itoa p).length = Lib.itoa p := by
  obtain ⟨s, _, _, he, _⟩ := text_eq p q
  rw [he, List.take_left]
theorem text_mid (p q : Int) : ((textG p q).drop (Lib.itoa p).length).take ((textG p q).length - 1 - (Lib.itoa p).length) = signG q ++ Lib.itoa q := by
  have hl := text_len p q
  obtain ⟨s, _, _, he, h3⟩ := text_eq p q
  rw [hl, he, List.drop_left, h3, ← List.cons_append]
  have e : (Lib.itoa p).length + 1 + (Lib.decDigits q.natAbs).length + 1 - 1 - (Lib.itoa p).length = (s :: Lib.decDigits q.natAbs).length := by rw [List.length_cons]; omega
  rw [e, List.take_left]
theorem atoi_mid {q : Int} (h0 : -9223372036854775808 ≤ q) (h1 : q ≤ 9223372036854775807) : Lib.atoiAll (signG q ++ Lib.itoa q) = .ok q := by
  unfold signG
  by_cases h : q < 0
  · rw [if_pos h, List.nil_append]; exact atoi_itoa h0 h1
  · rw [if_neg h]
    show Lib.atoiAll (43 :: Lib.itoa q) = _
    rw [Lib.atoiAll_plus]
    unfold Lib.itoa
    rw [if_neg h, parseMag_dec (by omega)]
    unfold Lib.signless
    simp only
    first | (rw [if_neg (by omega)]; congr 1; omega) | (rw [if_pos (by omega)]; congr 1; omega) | skip
theorem text_last (p q : Int) : (textG p q)[(textG p q).length - 1]? = some 105 := by
  unfold textG
  have hl : (Lib.itoa p ++ signG q ++ Lib.itoa q ++ [(105 : UInt8)]).length - 1 = (Lib.itoa p ++ signG q ++ Lib.itoa q).length := by
    rw [List.length_append (bs := [(105 : UInt8)])]; rfl
  rw [hl, List.getElem?_append_right (Nat.le_refl _), Nat.sub_self]
  rfl
/-- Texts tell their parts. -/
theorem text_inj {p q r s : Int} (hp : -9223372036854775808 ≤ p ∧ p ≤ 9223372036854775807) (hq : -9223372036854775808 ≤ q ∧ q ≤ 9223372036854775807) (hr : -9223372036854775808 ≤ r ∧ r ≤ 9223372036854775807) (hs : -9223372036854775808 ≤ s ∧ s ≤ 9223372036854775807) (h : textG p q = textG r s) : p = r ∧ q = s := by
  have hl : ((Lib.itoa p).length : Int) = (Lib.itoa r).length := lastP_one (last_text p q) (h ▸ last_text r s)
  have hn : (Lib.itoa p).length = (Lib.itoa r).length := by omega
  have e1 : Lib.itoa p = Lib.itoa r := by rw [← text_head p q, h, hn, text_head]
  have e2 : signG q ++ Lib.itoa q = signG s ++ Lib.itoa s := by rw [← text_mid p q, h, hn, text_mid]
  have a1 := atoi_itoa hp.1 hp.2
  have a2 := atoi_mid hq.1 hq.2
  rw [e1, atoi_itoa hr.1 hr.2] at a1
  rw [e2, atoi_mid hs.1 hs.2] at a2
  injection a1 with b1
  injection a2 with b2
  exact ⟨b1.symm, b2.symm⟩
end Go.Proofs.YtodphfgopngpeaaDoor
