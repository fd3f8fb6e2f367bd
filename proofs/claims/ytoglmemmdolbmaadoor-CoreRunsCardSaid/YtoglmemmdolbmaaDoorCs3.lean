/-
  What the law CoreRuns keeps: steps up to a trap, and a Ram's words and bytes. Condition: none.
-/
import Derived.Test.YtoglmemmdolbmaaDoorCs1
import Derived.Test.YtoglmemmdolbmaaDoorCoL
namespace Go.Proofs.YtoglmemmdolbmaaDoor
open Go.RowKit Go.Shelf
set_option linter.unusedVariables false
set_option linter.unusedSimpArgs false
attribute [local go_sem] Oper.semAt_some
attribute [local go_sem] run_store_complex
attribute [local irreducible] floatOfInt wz


def addN (j : Nat) (r : Cp × Nat × Int × List Int) : Cp × Nat × Int × List Int := (r.1, r.2.1 + j, r.2.2.1, r.2.2.2)
/-- Behind j steps of at most M. -/
def Goes (c : Cp) (m : List Int) (M j : Nat) (t : Int) (d : Cp) (l : List Int) : Prop :=
  (t = 0 ∧ j ≤ M ∧ runP c m M = addN j (runP d l (M - j))) ∨ (t ≠ 0 ∧ j < M ∧ runP c m M = (d, j, t, l))
theorem Goes.start (c : Cp) (m : List Int) (M : Nat) : Goes c m M 0 0 c m := .inl ⟨rfl, Nat.zero_le _, rfl⟩
theorem Goes.more {c d n : Cp} {m l l' : List Int} {M j : Nat} (h : Goes c m M j 0 d l) (hj : j < M) (hs : stepP d l = (n, 0, l')) : Goes c m M (j + 1) 0 n l' := by
  obtain ⟨_, _, h⟩ | ⟨h, _⟩ := h
  · refine .inl ⟨rfl, hj, ?_⟩
    obtain ⟨k, rfl⟩ : ∃ k, M = j + (k + 1) := ⟨M - j - 1, by omega⟩
    rw [h, show j + (k + 1) - j = k + 1 by omega, run_more (by rw [hs]), show j + (k + 1) - (j + 1) = k by omega, hs]
    unfold addN
    dsimp only
    rw [Nat.add_assoc, Nat.add_comm 1 j]
  · exact absurd rfl h
theorem Goes.trap {c d n : Cp} {m l l' : List Int} {M j : Nat} {t : Int} (h : Goes c m M j 0 d l) (hj : j < M) (hs : stepP d l = (n, t, l')) (ht : t ≠ 0) : Goes c m M j t n l' := by
  obtain ⟨_, _, h⟩ | ⟨h, _⟩ := h
  · refine .inr ⟨ht, hj, ?_⟩
    obtain ⟨k, rfl⟩ : ∃ k, M = j + (k + 1) := ⟨M - j - 1, by omega⟩
    rw [h, show j + (k + 1) - j = k + 1 by omega, run_trap (by rw [hs]; exact ht), hs]
    unfold addN
    dsimp only
    rw [Nat.zero_add]
  · exact absurd rfl h
theorem Goes.done {c d : Cp} {m l : List Int} {M j : Nat} {t : Int} (h : Goes c m M j t d l) (hn : ¬ (t = 0 ∧ j < M)) : runP c m M = (d, j, t, l) := by
  obtain ⟨rfl, hj, h⟩ | ⟨_, _, h⟩ := h
  · have e : M - j = 0 := by
      have : ¬ j < M := fun hl => hn ⟨rfl, hl⟩
      omega
    rw [h, e]
    unfold addN
    show (d, 0 + j, (0 : Int), l) = _
    rw [Nat.zero_add]
  · exact h
theorem getD_setR (m : List Int) {a : Nat} (v : Int) (h : a < m.length) : (m.set a v).getD a 0 = v := by
  rw [List.getD_eq_getElem?_getD, List.getElem?_set_self h]; rfl
theorem word_set4R (m : List Int) {a : Nat} {v : Int} (hv : 0 ≤ v ∧ v ≤ 4294967295) (h : a + 4 ≤ m.length) : wordM (set4 m a v) a = some v := by
  have h0 : (set4 m a v).getD a 0 = v % 256 ∧ (set4 m a v).getD (a + 1) 0 = v / 256 % 256 ∧ (set4 m a v).getD (a + 2) 0 = v / 65536 % 256 ∧ (set4 m a v).getD (a + 3) 0 = v / 16777216 := by
    unfold set4
    refine ⟨?_, ?_, ?_, ?_⟩
    · rw [getD_set_ne _ _ (by omega), getD_set_ne _ _ (by omega), getD_set_ne _ _ (by omega), getD_setR _ _ (by omega)]
    · rw [getD_set_ne _ _ (by omega), getD_set_ne _ _ (by omega), getD_setR _ _ (by simp only [List.length_set]; omega)]
    · rw [getD_set_ne _ _ (by omega), getD_setR _ _ (by simp only [List.length_set]; omega)]
    · rw [getD_setR _ _ (by simp only [List.length_set]; omega)]
  obtain ⟨h0, h1, h2, h3⟩ := h0
  unfold wordM
  rw [set4_len, if_pos h, h0, h1, h2, h3]
  unfold w4
  congr 1; omega
theorem ram_facts {ml : List Int} {N a : Nat} {v : Int} (hv : 0 ≤ v ∧ v ≤ 4294967295) (hl : ml.length = N) {m2 : List Int} (h2 : (if a + 4 ≤ N then set4 ml a v else ml) = m2) :
    (wordM m2 a).isSome = decide (a + 4 ≤ N) ∧ (a + 4 ≤ N → (wordM m2 a).getD 0 = v) ∧ (a < N → (m2.set a 7).getD a 0 = 7) ∧ (a < N → ml[a]? = some (ml.getD a 0)) := by
  subst hl
  have hx : a < ml.length → ml[a]? = some (ml.getD a 0) := fun h => by
    rw [List.getD_eq_getElem?_getD, List.getElem?_eq_getElem h]; rfl
  by_cases h4 : a + 4 ≤ ml.length
  · rw [if_pos h4] at h2
    subst h2
    rw [word_set4R ml hv h4, decide_eq_true h4]
    exact ⟨rfl, fun _ => rfl, fun h => getD_setR _ _ (by rw [set4_len]; exact h), hx⟩
  · rw [if_neg h4] at h2
    subst h2
    refine ⟨?_, fun h => absurd h h4, fun h => getD_setR _ _ h, hx⟩
    unfold wordM
    rw [if_neg h4, decide_eq_false h4]; rfl
variable {w : World} {gc gd g Bk ck Bl cl N : Nat} {c d : Cp} {mm ml : List Int} {W W' : World}
theorem run7 (hG : I.Laid w) (h : SI w gc gd g Bk ck Bl cl N c d mm ml W) (D : Dj w gc gd g Bk Bl) (hc : c.Ok) (most : Int) (hm : most ≤ 9223372036854775807) {n : Cp} {j : Nat} {t : Int} {m' : List Int} (hr : runP c mm most.toNat = (n, j, t, m')) (hl : m'.length = N) :
    Calls Tryd.prog 9 #[.agg #[.int .u32 (c.r 0), .int .u32 (c.r 1), .int .u32 (c.r 2), .int .u32 (c.r 3), .int .u32 (c.r 4), .int .u32 (c.r 5), .int .u32 (c.r 6), .int .u32 (c.r 7), .complex .f64 (c.z 0).1 (c.z 0).2, .complex .f64 (c.z 1).1 (c.z 1).2, .int .u32 c.pc], .iface 31 (.pointer (some ⟨g, 0, none⟩)), .int .i64 most] W fun e w' => e = .returned (.tuple #[.agg #[.int .u32 (n.r 0), .int .u32 (n.r 1), .int .u32 (n.r 2), .int .u32 (n.r 3), .int .u32 (n.r 4), .int .u32 (n.r 5), .int .u32 (n.r 6), .int .u32 (n.r 7), .complex .f64 (n.z 0).1 (n.z 0).2, .complex .f64 (n.z 1).1 (n.z 1).2, .int .u32 n.pc], .int .i64 (j : Int), .int .i64 t]) ∧ SI w gc gd g Bk ck Bl cl N c d m' ml w' := by
  have h1 := run_any (hG.below h.b) h.m h.zk (by have h3 := hG.klt; have h4 := D.u4; omega) c hc most hm
  rw [hr] at h1
  exact h1.mono fun e w' ⟨he, hm, hb⟩ => ⟨he, h.stepM D hm hl hb⟩
theorem byte7 (h : SI w gc gd g Bk ck Bl cl N c d mm ml W) (a : Nat) (ha : a < 4294967296) {q : Bool} (hq : decide (a < N) = q) {x : Int} (hx : mm.getD a 0 = x) :
    Calls Tryd.prog 18 #[.pointer (some ⟨g, 0, none⟩), .int .u32 (a : Int)] W fun e w' => e = .returned (.tuple #[.int .u8 x, .bool q]) ∧ W = w' := by
  have h1 := byte_any h.m a ha
  rw [h.lm, hq, hx] at h1
  exact h1.mono fun e w' ⟨he, hb⟩ => ⟨he, hb.symm⟩
theorem word7 (h : SI w gc gd g Bk ck Bl cl N c d mm ml W) (a : Nat) (ha : a < 4294967296) {v : Int} (hv : (wordM mm a).getD 0 = v) {q : Bool} (hq : (wordM mm a).isSome = q) :
    Calls Tryd.prog 20 #[.pointer (some ⟨g, 0, none⟩), .int .u32 (a : Int)] W fun e w' => e = .returned (.tuple #[.int .u32 v, .bool q]) ∧ SI w gc gd g Bk ck Bl cl N c d mm ml w' := by
  have h1 := word_any h.m a ha
  rw [hv, hq] at h1
  exact h1.mono fun e w' ⟨he, hb⟩ => ⟨he, h.below hb⟩
theorem setByte7 (h : SI w gc gd g Bk ck Bl cl N c d mm ml W) (D : Dj w gc gd g Bk Bl) (a : Nat) (ha : a < 4294967296) (v : Int) (hv : 0 ≤ v ∧ v ≤ 255) {q : Bool} (hq : decide (a < N) = q) {m2 : List Int} (hm : mm.set a v = m2) :
    Calls Tryd.prog 21 #[.pointer (some ⟨g, 0, none⟩), .int .u32 (a : Int), .int .u8 v] W fun e w' => e = .returned (.bool q) ∧ SI w gc gd g Bk ck Bl cl N c d m2 ml w' := by
  have h1 := setByte_any h.m a ha v hv
  have hl : m2.length = N := by rw [← hm, List.length_set]; exact h.lm
  rw [h.lm, hq, hm] at h1
  exact h1.mono fun e w' ⟨he, hm, hb⟩ => ⟨he, h.stepM D hm hl hb⟩
theorem setWord7 (h : SI w gc gd g Bk ck Bl cl N c d mm ml W) (D : Dj w gc gd g Bk Bl) (a : Nat) (ha : a < 4294967296) (v : Int) (hv : 0 ≤ v ∧ v ≤ 4294967295) {q : Bool} (hq : decide (a + 4 ≤ N) = q) {m2 : List Int} (hm : (if a + 4 ≤ N then set4 mm a v else mm) = m2) :
    Calls Tryd.prog 19 #[.pointer (some ⟨g, 0, none⟩), .int .u32 (a : Int), .int .u32 v] W fun e w' => e = .returned (.bool q) ∧ SI w gc gd g Bk ck Bl cl N c d m2 ml w' := by
  have h1 := setWord_any h.m a ha v hv
  have hl : m2.length = N := by
    rw [← hm]
    split
    · rw [set4_len]; exact h.lm
    · exact h.lm
  rw [h.lm, hq, hm] at h1
  exact h1.mono fun e w' ⟨he, hm, hb⟩ => ⟨he, h.stepM D hm hl hb⟩
end Go.Proofs.YtoglmemmdolbmaaDoor
