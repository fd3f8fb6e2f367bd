/-
  What the document's take says of a line: plain. No condition.
-/
import Derived.Test.YtkodeoocebimkaaDoorIs5
import Derived.Test.YtkodeoocebimkaaDoorRi1
import Derived.Test.YtkodeoocebimkaaDoorRi6
namespace Go.Proofs.YtkodeoocebimkaaDoor
open Go.RowKit
set_option linter.unusedVariables false
set_option linter.unusedSimpArgs false

def jC (c : UInt8) : Nat := if c = 97 then 0 else if c = 98 then 1 else 2
def stL (l : List UInt8) (o : Option NmS) : Option NmS := l.foldl (fun o c => o.bind (stepN (jC c) true)) o
theorem stL_snoc (l : List UInt8) (c : UInt8) (o : Option NmS) : stL (l ++ [c]) o = (stL l o).bind (stepN (jC c) true) := by unfold stL; rw [List.foldl_append]; rfl
theorem stL_none : ∀ l : List UInt8, stL l none = none
  | [] => rfl
  | c :: l => by show stL l none = none; exact stL_none l
theorem bind_no (j : Nat) (o : Option NmS) : o.bind (stepN j false) = o := by cases o <;> rfl
theorem namedO_lets {ws : List (List UInt8)} {k : Nat} (hk : opW (ws.getD 0 []) = k) (h : k < 30) : namedO ws = stL (letsI (k : Int)) (some (nm0 ws)) := by
  unfold namedO
  rw [hk, if_pos h]
  unfold nm3 nm2 nm1 letsI
  rw [if_pos (by omega), fR_in h]
  generalize some (nm0 ws) = o
  have w0 : wantF k 0 = decide (0 ≤ fA k) := rfl
  have w1 : wantF k 1 = decide (0 ≤ fB k) := rfl
  have w2 : wantF k 2 = fI k := rfl
  rw [w0, w1, w2]
  have j1 : jC 97 = 0 := rfl
  have j2 : jC 98 = 1 := rfl
  have j3 : jC 105 = 2 := rfl
  by_cases h1 : 0 ≤ fA k
  · by_cases h2 : 0 ≤ fB k
    · cases h3 : fI k <;> simp [h1, h2, stL, j1, j2, j3, bind_no]
    · cases h3 : fI k <;> simp [h1, h2, stL, j1, j2, j3, bind_no]
  · by_cases h2 : 0 ≤ fB k
    · cases h3 : fI k <;> simp [h1, h2, stL, j1, j2, j3, bind_no]
    · cases h3 : fI k <;> simp [h1, h2, stL, j1, j2, j3, bind_no]
theorem step_ws {j : Nat} {s s' : NmS} (h : stepN j true s = some s') : ∃ w, s.ws = w :: s'.ws := by
  unfold stepN at h
  rw [if_pos rfl] at h
  cases hs : s.ws with
  | nil => rw [hs] at h; cases h
  | cons w r =>
    rw [hs] at h
    simp only at h
    split at h
    · injection h with h; exact ⟨w, by rw [← h]⟩
    · split at h
      · injection h with h; exact ⟨w, by rw [← h]⟩
      · cases h
theorem step_op {j : Nat} {s s' : NmS} (h : stepN j true s = some s') : s'.x.op = s.x.op := by
  unfold stepN at h
  rw [if_pos rfl] at h
  cases hs : s.ws with
  | nil => rw [hs] at h; cases h
  | cons w r =>
    rw [hs] at h
    simp only at h
    split at h
    · injection h with h; rw [← h]; exact putF_op _ _ _
    · split at h
      · injection h with h; rw [← h]
      · cases h
theorem stL_rest : ∀ {l : List UInt8} {s s' : NmS}, stL l (some s) = some s' → s'.x.op = s.x.op ∧ s.ws.length = s'.ws.length + l.length ∧ s'.ws = s.ws.drop l.length
  | [], s, s', h => by injection h with h; subst h; exact ⟨rfl, rfl, rfl⟩
  | c :: l, s, s', h => by
    have h2 : stL l (stepN (jC c) true s) = some s' := h
    cases hs : stepN (jC c) true s with
    | none => rw [hs, stL_none] at h2; cases h2
    | some t =>
      rw [hs] at h2
      obtain ⟨e1, e2, e3⟩ := stL_rest h2
      obtain ⟨w, hw⟩ := step_ws hs
      refine ⟨e1.trans (step_op hs), ?_, ?_⟩
      · rw [hw, List.length_cons, List.length_cons, e2]; omega
      · rw [hw, List.length_cons, List.drop_succ_cons, e3]
theorem stL_take {l : List UInt8} {i : Nat} {o : Option NmS} (h : stL (l.take i) o = none) : stL l o = none := by
  have e : stL l o = stL (l.drop i) (stL (l.take i) o) := by
    unfold stL
    rw [← List.foldl_append, List.take_append_drop]
  rw [e, h, stL_none]
theorem namedT_len {ws : List (List UInt8)} {k : Nat} (hk : opW (ws.getD 0 []) = k) (h : k < 30) (hne : ws ≠ []) (hl : ws.length ≠ 1 + (letsI (k : Int)).length) : (namedT ws).is = false := by
  unfold namedT
  rw [namedO_lets hk h]
  cases hs : stL (letsI (k : Int)) (some (nm0 ws)) with
  | none => rfl
  | some s =>
    obtain ⟨_, e2, _⟩ := stL_rest hs
    have e : (nm0 ws).ws = ws.tail := rfl
    rw [e, List.length_tail] at e2
    have hp := List.length_pos_iff.2 hne
    simp only
    have : s.ws.isEmpty = false := by
      cases hw : s.ws with
      | nil => rw [hw] at e2; simp only [List.length_nil] at e2; omega
      | cons => rfl
    rw [this]
    rfl
theorem namedT_bad {ws : List (List UInt8)} {k : Nat} (hk : opW (ws.getD 0 []) = k) (h : k < 30) {i : Nat} (hs : stL ((letsI (k : Int)).take i) (some (nm0 ws)) = none) : (namedT ws).is = false := by
  unfold namedT
  rw [namedO_lets hk h, stL_take hs]
theorem namedT_good {ws : List (List UInt8)} {k : Nat} (hk : opW (ws.getD 0 []) = k) (h : k < 30) (hl : ws.length = 1 + (letsI (k : Int)).length) {s : NmS} (hs : stL (letsI (k : Int)) (some (nm0 ws)) = some s) : namedT ws = ⟨s.x, s.lab, decide (MayI s.x)⟩ := by
  unfold namedT
  rw [namedO_lets hk h, hs]
  obtain ⟨_, e2, _⟩ := stL_rest hs
  have e : (nm0 ws).ws = ws.tail := rfl
  rw [e, List.length_tail] at e2
  simp only
  have : s.ws.isEmpty = true := by
    cases hw : s.ws with
    | nil => rfl
    | cons => rw [hw] at e2; simp only [List.length_cons] at e2; omega
  rw [this]
  rfl
theorem lets_mem {k : Nat} (h : k < 30) : ∀ c ∈ letsI (k : Int), c = 97 ∨ c = 98 ∨ c = 105 := by
  have : ∀ k : Fin 30, ((letsI (k.1 : Int)).all fun c => decide (c = 97 ∨ c = 98 ∨ c = 105)) = true := by decide +kernel
  have h2 := this ⟨k, h⟩
  rw [List.all_eq_true] at h2
  intro c hc
  exact of_decide_eq_true (h2 c hc)
theorem lets_len (k : Nat) (h : k < 30) : (letsI (k : Int)).length ≤ 3 := by
  have : ∀ k : Fin 30, (letsI (k.1 : Int)).length ≤ 3 := by decide +kernel
  exact this ⟨k, h⟩
theorem name_hit {l : List UInt8} {k : Nat} (hk : k < 30) : fN k = ⟨l.toArray⟩ ↔ opW l = k := by
  constructor
  · intro e
    have h : (rowF k).1 = l := by
      have := congrArg (fun b : ByteArray => b.data.toList) e
      simpa [fN] using this
    rw [← h]
    exact opW_row ⟨k, hk⟩
  · intro e
    subst e
    show (⟨(rowF (opW l)).1.toArray⟩ : ByteArray) = _
    rw [opW_word hk]
theorem pieces_each {n : Nat} : ∀ {l : List UInt8}, l.length ≤ n → ∀ x ∈ pieces l, x.length ≤ n := by
  have : ∀ k (l : List UInt8), l.length = k → ∀ x ∈ pieces l, x.length ≤ k := by
    intro k
    induction k with
    | zero =>
      intro l h x hx
      rw [List.eq_nil_of_length_eq_zero h] at hx
      have e : pieces ([] : List UInt8) = [[]] := rfl
      rw [e, List.mem_singleton] at hx
      rw [hx]
      exact Nat.le_refl _
    | succ k ih =>
      intro l h x hx
      obtain ⟨d, r, rfl⟩ : ∃ d r, l = d :: r := by
        cases l with
        | nil => simp at h
        | cons d r => exact ⟨d, r, rfl⟩
      have hr := ih r (by simpa using h)
      by_cases hd : d = 32
      · subst hd
        rw [pieces_blank] at hx
        rcases List.mem_cons.1 hx with rfl | hx
        · simp
        · have := hr x hx; omega
      · obtain ⟨p, ps, hp⟩ := List.exists_cons_of_ne_nil (pieces_ne r)
        rw [pieces_other hd r hp] at hx
        rw [hp] at hr
        rcases List.mem_cons.1 hx with rfl | hx
        · have := hr p (List.mem_cons_self ..)
          rw [List.length_cons]
          omega
        · have := hr x (List.mem_cons_of_mem _ hx)
          omega
  intro l h x hx
  exact Nat.le_trans (this l.length l rfl x hx) h
theorem ownsRow_succ' {w : World} {base : Nat} {t : TypeId} {s : Nat} {v : Value} {n : Nat} {cs : List Value} (h : w.ownsRow base t s v (n + 1) cs) : ∃ g cap, v = .slice (some ⟨g, 0, none⟩) (n + 1) cap := by
  rcases h.2 with ⟨_, hz⟩ | ⟨g, cap, cur, hv, _⟩
  · omega
  · exact ⟨g, cap, hv⟩
theorem own_cap {w : World} {base : Nat} {t : TypeId} {s : Nat} {A : Option Addr} {n m cap : Nat} {cs : List Value} (h : w.ownsRow base t s (.slice A m cap) (n + 1) cs) : n + 1 ≤ cap := by
  rcases h.2 with ⟨_, hz⟩ | ⟨g, cap', cur, hv, _, _, hnc, _⟩
  · omega
  · injection hv with _ _ h3
    omega
/-- The instruction's number when the first k names have been looked at. -/
def opT (o k : Nat) : Int := if o < k then (o : Int) else -1
theorem opT_hit (k : Nat) : opT k (k + 1) = (k : Int) := if_pos (Nat.lt_succ_self k)
theorem opT_miss {o k : Nat} (h : o ≠ k) : opT o (k + 1) = opT o k := by
  unfold opT
  by_cases h1 : o < k
  · rw [if_pos h1, if_pos (by omega)]
  · rw [if_neg h1, if_neg (by omega)]
end Go.Proofs.YtkodeoocebimkaaDoor
