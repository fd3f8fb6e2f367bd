/-
  What is assembled are at most 512 words, each a word. Plain. No condition.
-/
import Derived.Test.YtpikgebfeleajaaGreatDoorIsC
import Derived.Test.YtpikgebfeleajaaGreatDoorBoPl
namespace Go.Proofs.YtpikgebfeleajaaGreatDoor
set_option linter.unusedVariables false
set_option linter.unusedSimpArgs false

def WordsOk (ws : List Int) : Prop := ws.length ≤ 512 ∧ ∀ w ∈ ws, I.RangeW w
theorem takeP_ok {p : I.PgS} (h : WordsOk p.words) (s : List UInt8) (line : Int) : WordsOk (I.takeP p s line).1.words := by
  unfold I.takeP
  cases hc : I.cutSuf 58 s with
  | some n =>
    simp only
    split
    · exact h
    · exact h
  | none =>
    simp only
    split
    · exact h
    · rename_i hl
      have hz : ∀ (x : Int), I.RangeW x → WordsOk (p.words ++ [x]) := fun x hx => by
        refine ⟨by rw [List.length_append]; simp only [List.length_cons, List.length_nil]; omega, fun w hw => ?_⟩
        rcases List.mem_append.1 hw with hw | hw
        · exact h.2 w hw
        · rw [List.mem_singleton.1 hw]; exact hx
      split
      · refine hz _ ?_
        unfold I.RangeW
        omega
      · exact hz _ (I.encW_range _)
theorem runA_ok : ∀ (ls : List (List UInt8)) (p : I.PgS) (n : Int), WordsOk p.words → WordsOk (I.runA p n ls).1.words
  | [], p, n, h => h
  | l :: ls, p, n, h => by
    unfold I.runA
    split
    · split
      · exact runA_ok ls _ _ (takeP_ok h _ _)
      · exact takeP_ok h _ _
    · exact h
theorem fixJ_ok (labs : List (List UInt8 × Int)) : ∀ (js : List I.JmpS) (ws : List Int), WordsOk ws → WordsOk (I.fixJ labs js ws).1
  | [], ws, h => h
  | j :: js, ws, h => by
    unfold I.fixJ
    split
    · exact h
    · split
      · rename_i hm
        refine fixJ_ok labs js _ ⟨by rw [List.length_set]; exact h.1, fun w hw => ?_⟩
        rcases List.mem_or_eq_of_mem_set hw with hw | rfl
        · exact h.2 w hw
        · exact I.encI_range hm
      · exact h
theorem asm_ok (s : List UInt8) : WordsOk (I.asmP s).1 := by
  have h1 := runA_ok (lns s) I.pg0 0 ⟨by decide, fun w hw => (by cases hw)⟩
  unfold I.asmP
  split
  · have h2 := fixJ_ok (I.runA I.pg0 0 (lns s)).1.labs (I.runA I.pg0 0 (lns s)).1.jumps _ h1
    split
    · rename_i h3
      rw [h3] at h2
      exact h2
    · exact ⟨Nat.zero_le _, fun w hw => (by cases hw)⟩
  · exact ⟨Nat.zero_le _, fun w hw => (by cases hw)⟩
end Go.Proofs.YtpikgebfeleajaaGreatDoor
