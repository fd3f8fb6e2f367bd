/-
  What is assembled are at most 512 words, each a word. Plain. No condition.
-/
import Derived.Lib.CutLaws
import Derived.Lib.IndexBytes
import Derived.Lib.IndexLaws
import Derived.Test.YtpikgebfeleajaaGreatDoorIsPa
import Derived.Test.YtpikgebfeleajaaGreatDoorIsC
namespace Go.Proofs.YtpikgebfeleajaaGreatDoor
section
set_option linter.unusedVariables false
set_option linter.unusedSimpArgs false

/-! ## cutting at a line's end -/
theorem idx10_app : ∀ {a : List UInt8} (r : List UInt8), (∀ c ∈ a, c ≠ 10) → Lib.indexByte (a ++ 10 :: r) 10 = a.length
  | [], r, _ => by simp [Lib.indexByte]
  | c :: a, r, h => by
    have hc := h c (List.mem_cons_self ..)
    have ih := idx10_app (a := a) r fun x hx => h x (List.mem_cons_of_mem _ hx)
    rw [List.cons_append, Lib.indexByte]
    simp only [beq_iff_eq, hc, if_false, ih, List.length_cons]
    split
    · omega
    · omega
def hdL (s : List UInt8) : List UInt8 := (Lib.cut s [10]).1
def tlL (s : List UInt8) : List UInt8 := (Lib.cut s [10]).2.1
def okL (s : List UInt8) : Bool := (Lib.cut s [10]).2.2
theorem cut_line {a : List UInt8} (r : List UInt8) (h : ∀ c ∈ a, c ≠ 10) : hdL (a ++ 10 :: r) = a ∧ tlL (a ++ 10 :: r) = r ∧ okL (a ++ 10 :: r) = true := by
  have h1 : Lib.index (a ++ 10 :: r) [10] = a.length := by rw [Lib.index_one, idx10_app r h]
  unfold hdL tlL okL Lib.cut
  rw [h1, if_pos (by omega)]
  simp
theorem cut_back {s : List UInt8} (h : okL s = true) : s = hdL s ++ 10 :: tlL s := by
  unfold okL Lib.cut at h
  by_cases h1 : 0 ≤ Lib.index s [10]
  · obtain ⟨o, ho⟩ := Int.eq_ofNat_of_zero_le h1
    have h2 := ho
    rw [Lib.index_one] at h2
    obtain ⟨h3, _⟩ := Lib.indexByte_some h2
    unfold hdL tlL Lib.cut
    rw [ho, if_pos (by omega)]
    simp only [Int.toNat_natCast, List.length_cons, List.length_nil, Nat.zero_add]
    have hl := (List.getElem?_eq_some_iff.1 h3).1
    have hx := (List.getElem?_eq_some_iff.1 h3).2
    rw [← hx, List.getElem_cons_drop, List.take_append_drop]
  · rw [if_neg h1] at h
    cases h
theorem hd_len (s : List UInt8) : (hdL s).length ≤ s.length ∧ (tlL s).length ≤ s.length := by
  unfold hdL tlL Lib.cut
  split
  · simp only [List.length_take, List.length_drop]; omega
  · simp

/-! ## a line's number -/
def wB (k : Nat) : List UInt8 := [[99, 111, 114, 101, 115], [102, 114, 97, 109, 101, 115], [112, 114, 111, 99, 115], [112, 105, 112, 101]].getD k []
def mB' (k : Nat) : Int := [8, 256, 32, 64].getD k 0
def restB (k : Nat) (s : List UInt8) : List UInt8 := Lib.trimPrefix s (wB k ++ [32])
def numV (k : Nat) (s : List UInt8) : Int := atoiV (restB k s)
def NumOk (k : Nat) (s : List UInt8) : Prop := Lib.hasPrefix s (wB k ++ [32]) = true ∧ okE (Lib.atoiAll (restB k s)) = true ∧ Lib.itoa (numV k s) = restB k s ∧ 1 ≤ numV k s ∧ numV k s ≤ mB' k
instance (k : Nat) (s : List UInt8) : Decidable (NumOk k s) := by unfold NumOk; infer_instance
def lineB (k : Nat) (n : Int) : List UInt8 := wB k ++ 32 :: Lib.itoa n
theorem mB_le (k : Nat) : 0 ≤ mB' k ∧ mB' k ≤ 256 := by
  unfold mB'
  match k with
  | 0 | 1 | 2 | 3 => decide
  | k + 4 => simp
theorem pre_line (k : Nat) (n : Int) : Lib.hasPrefix (lineB k n) (wB k ++ [32]) = true ∧ restB k (lineB k n) = Lib.itoa n := by
  have e : lineB k n = (wB k ++ [32]) ++ Lib.itoa n := by unfold lineB; simp
  have h : Lib.hasPrefix (lineB k n) (wB k ++ [32]) = true := by
    rw [e]
    unfold Lib.hasPrefix
    rw [List.isPrefixOf_iff_prefix]
    exact List.prefix_append _ _
  refine ⟨h, ?_⟩
  unfold restB Lib.trimPrefix
  rw [if_pos h, e, List.drop_left' rfl]
theorem num_line {k : Nat} {n : Int} (h1 : 1 ≤ n) (h2 : n ≤ mB' k) : NumOk k (lineB k n) ∧ numV k (lineB k n) = n := by
  have hm := mB_le k
  obtain ⟨h3, h4⟩ := pre_line k n
  have hv : numV k (lineB k n) = n := by unfold numV; rw [h4, atoiV_itoa (by omega) (by omega)]
  refine ⟨⟨h3, ?_, ?_, ?_, ?_⟩, hv⟩
  · rw [h4, atoi_itoa (by omega) (by omega)]; rfl
  · rw [hv, h4]
  · rw [hv]; exact h1
  · rw [hv]; exact h2
theorem num_back {k : Nat} {s : List UInt8} (h : NumOk k s) : s = lineB k (numV k s) := by
  obtain ⟨h1, _, h3, _, _⟩ := h
  unfold lineB
  rw [h3]
  unfold restB Lib.trimPrefix
  rw [if_pos h1]
  obtain ⟨r, hr⟩ := List.isPrefixOf_iff_prefix.1 h1
  rw [← hr, List.drop_left' rfl]
  simp
theorem wB_chars : ∀ k : Fin 4, (wB k.1).all (fun c => c != 10) = true := by decide +kernel
theorem lineB_char {k : Nat} (hk : k < 4) (n : Int) : ∀ c ∈ lineB k n, c ≠ 10 := fun c hc => by
  unfold lineB at hc
  rcases List.mem_append.1 hc with h | h
  · have := wB_chars ⟨k, hk⟩
    rw [List.all_eq_true] at this
    simpa using this c h
  · rcases List.mem_cons.1 h with rfl | h
    · decide
    · exact (I.itoa_char h).1

/-! ## the four lines -/
def StepOk (k : Nat) (s : List UInt8) : Prop := okL s = true ∧ NumOk k (hdL s)
instance (k : Nat) (s : List UInt8) : Decidable (StepOk k s) := by unfold StepOk; infer_instance
/-- What is behind so many lines, whatever they are; their numbers. -/
def behL : Nat → List UInt8 → List UInt8
  | 0, s => s
  | k + 1, s => tlL (behL k s)
def valB (k : Nat) (s : List UInt8) : Int := numV k (hdL (behL k s))
theorem beh_len : ∀ (k : Nat) (s : List UInt8), (behL k s).length ≤ s.length
  | 0, s => Nat.le_refl _
  | k + 1, s => Nat.le_trans (hd_len _).2 (beh_len k s)
/-- The four lines are fine; else the first that is not. -/
def badB (s : List UInt8) : Option Nat := if ¬ StepOk 0 (behL 0 s) then some 0 else if ¬ StepOk 1 (behL 1 s) then some 1 else if ¬ StepOk 2 (behL 2 s) then some 2 else if ¬ StepOk 3 (behL 3 s) then some 3 else none
def parseB (s : List UInt8) : (Int × Int × Int × Int × List Int) × Int × Int :=
  match badB s with
  | some k => ((0, 0, 0, 0, []), (k : Int) + 1, 190)
  | none =>
    if (I.asmP (behL 4 s)).2.2 = 0 then
      if (I.asmP (behL 4 s)).1 = [] then ((0, 0, 0, 0, []), 0, 190) else ((valB 0 s, valB 1 s, valB 2 s, valB 3 s, (I.asmP (behL 4 s)).1), 0, 0)
    else ((0, 0, 0, 0, []), 4 + (I.asmP (behL 4 s)).2.1, 190)
def headT (c f p q : Int) : List UInt8 := lineB 0 c ++ 10 :: (lineB 1 f ++ 10 :: (lineB 2 p ++ 10 :: (lineB 3 q ++ [10])))
def textB (c f p q : Int) (ws : List Int) : List UInt8 := headT c f p q ++ I.listP ws
/-- The four numbers may be. -/
def InB (c f p q : Int) : Prop := (1 ≤ c ∧ c ≤ 8) ∧ (1 ≤ f ∧ f ≤ 256) ∧ (1 ≤ p ∧ p ≤ 32) ∧ (1 ≤ q ∧ q ≤ 64)
theorem step_line {k : Nat} (hk : k < 4) {n : Int} (h1 : 1 ≤ n) (h2 : n ≤ mB' k) (r : List UInt8) : StepOk k (lineB k n ++ 10 :: r) ∧ hdL (lineB k n ++ 10 :: r) = lineB k n ∧ tlL (lineB k n ++ 10 :: r) = r := by
  obtain ⟨e1, e2, e3⟩ := cut_line r (lineB_char hk n)
  refine ⟨⟨e3, ?_⟩, e1, e2⟩
  rw [e1]
  exact (num_line h1 h2).1
theorem head_beh {c f p q : Int} (h : InB c f p q) (r : List UInt8) : badB (headT c f p q ++ r) = none ∧ behL 4 (headT c f p q ++ r) = r ∧ valB 0 (headT c f p q ++ r) = c ∧ valB 1 (headT c f p q ++ r) = f ∧ valB 2 (headT c f p q ++ r) = p ∧ valB 3 (headT c f p q ++ r) = q := by
  obtain ⟨hc, hf, hp, hq⟩ := h
  have e : headT c f p q ++ r = lineB 0 c ++ 10 :: (lineB 1 f ++ 10 :: (lineB 2 p ++ 10 :: (lineB 3 q ++ 10 :: r))) := by unfold headT; simp
  obtain ⟨s3, a3, b3⟩ := step_line (k := 3) (by decide) (n := q) hq.1 (show q ≤ 64 from hq.2) r
  obtain ⟨s2, a2, b2⟩ := step_line (k := 2) (by decide) (n := p) hp.1 (show p ≤ 32 from hp.2) (lineB 3 q ++ 10 :: r)
  obtain ⟨s1, a1, b1⟩ := step_line (k := 1) (by decide) (n := f) hf.1 (show f ≤ 256 from hf.2) (lineB 2 p ++ 10 :: (lineB 3 q ++ 10 :: r))
  obtain ⟨s0, a0, b0⟩ := step_line (k := 0) (by decide) (n := c) hc.1 (show c ≤ 8 from hc.2) (lineB 1 f ++ 10 :: (lineB 2 p ++ 10 :: (lineB 3 q ++ 10 :: r)))
  have d0 : behL 0 (headT c f p q ++ r) = lineB 0 c ++ 10 :: (lineB 1 f ++ 10 :: (lineB 2 p ++ 10 :: (lineB 3 q ++ 10 :: r))) := e
  have d1 : behL 1 (headT c f p q ++ r) = lineB 1 f ++ 10 :: (lineB 2 p ++ 10 :: (lineB 3 q ++ 10 :: r)) := by show tlL (behL 0 _) = _; rw [d0, b0]
  have d2 : behL 2 (headT c f p q ++ r) = lineB 2 p ++ 10 :: (lineB 3 q ++ 10 :: r) := by show tlL (behL 1 _) = _; rw [d1, b1]
  have d3 : behL 3 (headT c f p q ++ r) = lineB 3 q ++ 10 :: r := by show tlL (behL 2 _) = _; rw [d2, b2]
  have d4 : behL 4 (headT c f p q ++ r) = r := by show tlL (behL 3 _) = _; rw [d3, b3]
  refine ⟨?_, d4, ?_, ?_, ?_, ?_⟩
  · unfold badB
    rw [d0, d1, d2, d3, if_neg (by simpa using s0), if_neg (by simpa using s1), if_neg (by simpa using s2), if_neg (by simpa using s3)]
  · unfold valB; rw [d0, a0]; exact (num_line (k := 0) hc.1 (show c ≤ 8 from hc.2)).2
  · unfold valB; rw [d1, a1]; exact (num_line (k := 1) hf.1 (show f ≤ 256 from hf.2)).2
  · unfold valB; rw [d2, a2]; exact (num_line (k := 2) hp.1 (show p ≤ 32 from hp.2)).2
  · unfold valB; rw [d3, a3]; exact (num_line (k := 3) hq.1 (show q ≤ 64 from hq.2)).2
theorem parse_head {c f p q : Int} (h : InB c f p q) (r : List UInt8) : parseB (headT c f p q ++ r) = if (I.asmP r).2.2 = 0 then (if (I.asmP r).1 = [] then ((0, 0, 0, 0, []), 0, 190) else ((c, f, p, q, (I.asmP r).1), 0, 0)) else ((0, 0, 0, 0, []), 4 + (I.asmP r).2.1, 190) := by
  obtain ⟨h1, h2, h3, h4, h5, h6⟩ := head_beh h r
  unfold parseB
  rw [h1]
  simp only [h2, h3, h4, h5, h6]
theorem parse_text {c f p q : Int} {ws : List Int} (h : InB c f p q) (hr : ∀ w ∈ ws, I.RangeW w) (h1 : 1 ≤ ws.length) (h2 : ws.length ≤ 512) : parseB (textB c f p q ws) = ((c, f, p, q, ws), 0, 0) := by
  unfold textB
  rw [parse_head h, I.asm_list hr h2]
  simp only [if_true]
  rw [if_neg (by intro e; rw [e] at h1; simp at h1)]
theorem bad_none {s : List UInt8} (h : badB s = none) : StepOk 0 (behL 0 s) ∧ StepOk 1 (behL 1 s) ∧ StepOk 2 (behL 2 s) ∧ StepOk 3 (behL 3 s) := by
  unfold badB at h
  by_cases h0 : StepOk 0 (behL 0 s)
  · by_cases h1 : StepOk 1 (behL 1 s)
    · by_cases h2 : StepOk 2 (behL 2 s)
      · by_cases h3 : StepOk 3 (behL 3 s)
        · exact ⟨h0, h1, h2, h3⟩
        · simp [h0, h1, h2, h3] at h
      · simp [h0, h1, h2] at h
    · simp [h0, h1] at h
  · simp [h0] at h
theorem bad_in {s : List UInt8} (h : badB s = none) : InB (valB 0 s) (valB 1 s) (valB 2 s) (valB 3 s) := by
  obtain ⟨h0, h1, h2, h3⟩ := bad_none h
  exact ⟨h0.2.2.2.2, h1.2.2.2.2, h2.2.2.2.2, h3.2.2.2.2⟩
end
end Go.Proofs.YtpikgebfeleajaaGreatDoor
namespace Go.Proofs.YtpikgebfeleajaaGreatDoor
section
set_option linter.unusedVariables false
set_option linter.unusedSimpArgs false

def WordsOk (ws : List Int) : Prop := ws.length ≤ 512 ∧ ∀ w ∈ ws, I.RangeW w
theorem takeP_ok {p : I.PgS} (h : WordsOk p.words) (s : List UInt8) (line : Int) : WordsOk (I.takeP p s line).1.words := by
  unfold I.takeP
  cases hc : I.cutSuf 58 s with
  | some n =>
    simp only
    split
    · exact h
    · exact h
  | none =>
    simp only
    split
    · exact h
    · rename_i hl
      have hz : ∀ (x : Int), I.RangeW x → WordsOk (p.words ++ [x]) := fun x hx => by
        refine ⟨by rw [List.length_append]; simp only [List.length_cons, List.length_nil]; omega, fun w hw => ?_⟩
        rcases List.mem_append.1 hw with hw | hw
        · exact h.2 w hw
        · rw [List.mem_singleton.1 hw]; exact hx
      split
      · refine hz _ ?_
        unfold I.RangeW
        omega
      · exact hz _ (I.encW_range _)
theorem runA_ok : ∀ (ls : List (List UInt8)) (p : I.PgS) (n : Int), WordsOk p.words → WordsOk (I.runA p n ls).1.words
  | [], p, n, h => h
  | l :: ls, p, n, h => by
    unfold I.runA
    split
    · split
      · exact runA_ok ls _ _ (takeP_ok h _ _)
      · exact takeP_ok h _ _
    · exact h
theorem fixJ_ok (labs : List (List UInt8 × Int)) : ∀ (js : List I.JmpS) (ws : List Int), WordsOk ws → WordsOk (I.fixJ labs js ws).1
  | [], ws, h => h
  | j :: js, ws, h => by
    unfold I.fixJ
    split
    · exact h
    · split
      · rename_i hm
        refine fixJ_ok labs js _ ⟨by rw [List.length_set]; exact h.1, fun w hw => ?_⟩
        rcases List.mem_or_eq_of_mem_set hw with hw | rfl
        · exact h.2 w hw
        · exact I.encI_range hm
      · exact h
theorem asm_ok (s : List UInt8) : WordsOk (I.asmP s).1 := by
  have h1 := runA_ok (lns s) I.pg0 0 ⟨by decide, fun w hw => (by cases hw)⟩
  unfold I.asmP
  split
  · have h2 := fixJ_ok (I.runA I.pg0 0 (lns s)).1.labs (I.runA I.pg0 0 (lns s)).1.jumps _ h1
    split
    · rename_i h3
      rw [h3] at h2
      exact h2
    · exact ⟨Nat.zero_le _, fun w hw => (by cases hw)⟩
  · exact ⟨Nat.zero_le _, fun w hw => (by cases hw)⟩
end
end Go.Proofs.YtpikgebfeleajaaGreatDoor
