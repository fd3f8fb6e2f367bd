/-
  isa's program takes a line, whatever line; what holds of a program that takes lines. Condition: the tables lie as the program's text, and the library's, lay them.
-/
import Derived.Test.YtoglmemmdolbmaaDoorIsB
namespace Go.Proofs.YtoglmemmdolbmaaDoor.I
open Go.RowKit Go.Shelf Go.WideMaps
set_option linter.unusedVariables false
set_option linter.unusedSimpArgs false
attribute [local go_sem] Oper.semAt_some

/-! ## plain: what holds of a program -/
theorem stepN_lab {j : Nat} {want : Bool} {s s' : NmS} (h : stepN j want s = some s') (hs : s.lab.length ≤ 16) : s'.lab.length ≤ 16 := by
  unfold stepN at h
  split at h
  · split at h
    · cases h
    · split at h
      · simp only [Option.some.injEq] at h
        rw [← h]; exact hs
      · split at h
        · rename_i hc
          simp only [Option.some.injEq] at h
          rw [← h]
          have h3 := hc.2.2
          unfold nameB at h3
          simp only [Bool.and_eq_true, decide_eq_true_eq] at h3
          exact h3.2.2
        · cases h
  · simp only [Option.some.injEq] at h
    rw [← h]; exact hs
theorem stN_lab (k : Nat) (ws : List (List UInt8)) : ∀ (j : Nat) (s : NmS), stN k ws j = some s → s.lab.length ≤ 16
  | 0, s, h => by
    simp only [stN, Option.some.injEq] at h
    rw [← h]
    exact Nat.zero_le _
  | j + 1, s, h => by
    unfold stN at h
    cases hp : stN k ws j with
    | none => rw [hp] at h; cases h
    | some s0 =>
      rw [hp] at h
      exact stepN_lab h (stN_lab k ws j s0 hp)
theorem namedT_lab (ws : List (List UInt8)) : (namedT ws).lab.length ≤ 16 := by
  by_cases h : opW (ws.getD 0 []) < 30
  · unfold namedT
    rw [namedO_st h]
    cases hs : stN (opW (ws.getD 0 [])) ws 3 with
    | none => exact Nat.zero_le _
    | some s => exact stN_lab _ _ _ _ hs
  · unfold namedT namedO
    rw [if_neg h]
    exact Nat.zero_le _
structure InvP (p : PgS) (k : Nat) : Prop where
  words : p.words.length ≤ 512
  jumps : p.jumps.length ≤ p.words.length
  labs : p.labs.length ≤ k
  vals : ∀ n v, labO p.labs n = some v → 0 ≤ v ∧ v ≤ 512
  js : ∀ j ∈ p.jumps, (0 ≤ j.pl ∧ j.pl < (p.words.length : Int)) ∧ j.lab.length ≤ 16
theorem inv_pg0 : InvP pg0 0 := ⟨by decide, by decide, by decide, fun n v h => (by cases h), fun j h => (by cases h)⟩
theorem InvP.mono {p : PgS} {k m : Nat} (h : InvP p k) (hk : k ≤ m) : InvP p m := ⟨h.words, h.jumps, Nat.le_trans h.labs hk, h.vals, h.js⟩
theorem takeP_inv {p : PgS} {k : Nat} (h : InvP p k) (s : List UInt8) (line : Int) : InvP (takeP p s line).1 (k + 1) := by
  unfold takeP
  cases hc : cutSuf 58 s with
  | some n =>
    simp only
    split
    · exact h.mono (Nat.le_succ k)
    · refine ⟨h.words, h.jumps, by simp only [List.length_cons]; have := h.labs; omega, fun n' v hv => ?_, h.js⟩
      simp only [labO_cons] at hv
      split at hv
      · simp only [Option.some.injEq] at hv
        have := h.words
        omega
      · exact h.vals n' v hv
  | none =>
    simp only
    split
    · exact h.mono (Nat.le_succ k)
    · rename_i h1
      split
      · refine ⟨by simp; omega, by simp; have := h.jumps; omega, Nat.le_trans h.labs (Nat.le_succ k), h.vals, fun j hj => ?_⟩
        have := h.js j hj
        simp only [List.length_append, List.length_cons, List.length_nil]
        omega
      · refine ⟨by simp; omega, ?_, Nat.le_trans h.labs (Nat.le_succ k), h.vals, fun j hj => ?_⟩
        · simp only
          split
          · simp; have := h.jumps; omega
          · simp; have := h.jumps; omega
        · simp only [List.length_append, List.length_cons, List.length_nil]
          simp only at hj
          split at hj
          · have := h.js j hj; omega
          · rcases List.mem_append.1 hj with hj | hj
            · have := h.js j hj; omega
            · simp only [List.mem_cons, List.not_mem_nil, or_false] at hj
              subst hj
              exact ⟨by simp only; omega, namedT_lab _⟩
/-- By lines without their ends. -/
def runC : PgS → Int → List (List UInt8 × Bool) → PgS × Int × Bool
  | p, n, [] => (p, n, true)
  | p, n, l :: ls => if l.2 then (if (takeP p l.1 (n + 1)).2 then runC (takeP p l.1 (n + 1)).1 (n + 1) ls else ((takeP p l.1 (n + 1)).1, n + 1, false)) else (p, n + 1, false)
theorem runA_C : ∀ (ls : List (List UInt8)) (p : PgS) (n : Int), runA p n ls = runC p n (ls.map cutNl)
  | [], p, n => rfl
  | l :: ls, p, n => by
    simp only [runA, List.map_cons, runC]
    split
    · split
      · exact runA_C ls _ _
      · rfl
    · rfl
def stepC (p : PgS) (n : Int) (l : List UInt8 × Bool) : PgS × Int × Bool := if l.2 then ((takeP p l.1 (n + 1)).1, n + 1, (takeP p l.1 (n + 1)).2) else (p, n + 1, false)
theorem runC_snoc : ∀ (ls : List (List UInt8 × Bool)) (p : PgS) (n : Int) (p' : PgS) (n' : Int) (l : List UInt8 × Bool), runC p n ls = (p', n', true) → runC p n (ls ++ [l]) = stepC p' n' l
  | [], p, n, p', n', l, h => by
    simp only [runC, Prod.mk.injEq] at h
    obtain ⟨rfl, rfl, _⟩ := h
    simp only [List.nil_append, runC, stepC]
    cases l.2 with
    | false => rfl
    | true =>
      simp only [if_true]
      cases h2 : (takeP p l.1 (n + 1)).2 with
      | false => rfl
      | true => rfl
  | x :: ls, p, n, p', n', l, h => by
    simp only [List.cons_append, runC] at h ⊢
    split at h
    · rename_i h1
      rw [if_pos h1]
      split at h
      · rename_i h2
        rw [if_pos h2]
        exact runC_snoc ls _ _ p' n' l h
      · simp at h
    · simp at h
theorem runC_stop : ∀ (ls : List (List UInt8 × Bool)) (p : PgS) (n : Int) (p' : PgS) (n' : Int) (r : List (List UInt8 × Bool)), runC p n ls = (p', n', false) → runC p n (ls ++ r) = (p', n', false)
  | [], p, n, p', n', r, h => by simp [runC] at h
  | x :: ls, p, n, p', n', r, h => by
    simp only [List.cons_append, runC] at h ⊢
    split at h
    · rename_i h1
      rw [if_pos h1]
      split at h
      · rename_i h2
        rw [if_pos h2]
        exact runC_stop ls _ _ p' n' r h
      · rename_i h2
        rw [if_neg h2]
        exact h
    · rename_i h1
      rw [if_neg h1]
      exact h

/-! ## take -/
theorem take_any {W : World} (hG : Ground W) {base pb mb : Nat} {p : PgS} {v1 v2 : Value} (h : PgAt W base pb mb p v1 v2) (s : ByteArray) (hs : s.size ≤ 1000000) (line : Int) {k : Nat} (hi : InvP p k) (hk : k ≤ 1000000) (hgb : 0 < base) :
    Calls Tryd.prog 49 #[.pointer (some ⟨pb, 0, none⟩), .string s, .int .i64 line] W (TakeOut W base pb mb (takeP p s.data.toList line)) := by
  cases hc : cutSuf 58 s.data.toList with
  | some n => exact take_label hG h s hs line hi.words (Nat.le_trans hi.labs hk) hc
  | none =>
    by_cases h1 : 512 ≤ p.words.length
    · exact take_word hG h s hs line hc (.inl h1) hi.words
    · by_cases h2 : wordP.isPrefixOf s.data.toList = true
      · exact take_word hG h s hs line hc (.inr h2) hi.words
      · exact take_ins hG h s hs line hc (Bool.eq_false_iff.2 h2) (by omega) hi.jumps hgb
/-- What stands at a word; nought, if nothing does. -/
theorem MapAt.lookD {W : World} {mb : Nat} {labs : List (List UInt8 × Int)} (h : MapAt W mb labs) (s : ByteArray) (hs : s.size ≤ maxLen) :
    (Instr.lookup 103 (.map (some mb)) (.string s) true).run Tryd.prog W = .ok (.tuple #[.int .i64 ((labO labs s.data.toList).getD 0), .bool (labO labs s.data.toList).isSome]) W := by
  obtain ⟨D, h1, h2⟩ := h
  obtain ⟨v, ps, hrun, hv⟩ := h1.look_ok keyS Tryd.underlying103 (zeroI W) (plainElem_int Tryd.underlying3 (q := .i64) (a := 0) (by decide)) (keyOf_string_mk Tryd.underlying9 hs)
  obtain ⟨c, rfl, hc, _⟩ := plainElem_int_inv Tryd.underlying3 hv
  have h4 : D.atKey (.string s.data.toList) (.lit (.int .i64 0)) = .lit (.int .i64 c) := congrArg Prod.fst hc
  have hcv : c = (labO labs s.data.toList).getD 0 := by
    cases hl : labO labs s.data.toList with
    | none =>
      have h5 := (h2 s.data.toList).1
      rw [hl] at h5
      rw [Maps.atKey_of_not_has h5] at h4
      simp only [DataW.lit.injEq, Lit.int.injEq, true_and] at h4
      exact h4.symm
    | some u =>
      rw [(h2 _).2 u hl] at h4
      simp only [DataW.lit.injEq, Lit.int.injEq, true_and] at h4
      exact h4.symm
  rw [hrun, (h2 _).1, hcv]
section
variable {W W' : World} {base pb mb : Nat} {p : PgS} {v1 v2 : Value}
/-- A word in its place. -/
theorem PgAt.setWord (h : PgAt W base pb mb p v1 v2) {k : Nat} (hk : k < p.words.length) (u : Int) : ∃ g c, v1 = .slice (some ⟨g, 0, none⟩) p.words.length c ∧ base ≤ g ∧ W.cell? ⟨g, k, none⟩ = some (.int .u32 (p.words.getD k 0)) ∧ W.frozen? ⟨g, k, none⟩ = false ∧ g < W.heap.size ∧ p.words.length ≤ c ∧
    PgAt (W.setCell ⟨g, k, none⟩ (.int .u32 u)) base pb mb ⟨p.words.set k u, p.labs, p.jumps⟩ v1 v2 := by
  obtain ⟨hl, ⟨rfl, h0⟩ | ⟨g, cap, cur, rfl, hb, hg, hnc, hcm, hcs, ht⟩⟩ := h.words
  · omega
  have hblk : Blk W g 22 cur := hg
  have hkc : k < cur.size := by rw [hcs]; omega
  have hwl : (wVals p.words).length = p.words.length := by unfold wVals; simp
  have hck : cur[k]? = some (.int .u32 (p.words.getD k 0)) := by
    have h1 : (cur.toList.take (p.words.length * 1))[k]? = (wVals p.words)[k]? := by rw [ht]
    rw [List.getElem?_take, if_pos (by omega)] at h1
    rw [← Array.getElem?_toList, h1]
    unfold wVals
    rw [List.getElem?_map, List.getD_eq_getElem?_getD, List.getElem?_eq_getElem hk]
    rfl
  have hgl := hblk.lt
  have hgp : g ≠ pb := by have := h.lp; omega
  have hgm : g ≠ mb := by have := h.lm; omega
  have hgrow : W.grownBy (W.setCell ⟨g, k, none⟩ (.int .u32 u)) (some g) := ⟨rfl, rfl, rfl, by simp [World.setCell], fun i hi hin => Below.heap_setCell W _ _ i (fun e => hin (by rw [e]))⟩
  refine ⟨g, cap, rfl, hb, (hblk.cell k).trans hck, hblk.frozen k, hgl, hnc, h.blk.far (by simpa using hgp.symm) _, ?_, h.labs.kept hgrow (by simpa using hgm.symm), h.jumps.kept hgrow ?_, h.apart, h.lp, h.lm, by simpa using h.lb⟩
  · refine ⟨by simp [wVals], .inr ⟨g, cap, cur.setIfInBounds k (.int .u32 u), by simp, hb, hblk.set_ k _, by simpa using hnc, hcm, by simpa using hcs, ?_⟩⟩
    rw [Array.toList_setIfInBounds, List.take_set, List.length_set, ht]
    unfold wVals
    rw [List.map_set]
  · cases hv : v2.ownBlock with
    | none => exact .inl rfl
    | some r => exact .inr (fun e => h.apart g rfl (by rw [hv]; exact e))
theorem PgAt.far (h : PgAt W base pb mb p v1 v2) {q : Addr} (h1 : q.block ≠ pb) (h2 : q.block ≠ mb) (h3 : q.block < base) (u : Value) : PgAt (W.setCell q u) base pb mb p v1 v2 :=
  ⟨h.blk.far (fun e => h1 e.symm) u, own_set h.words h3 u, h.labs.kept (row := some q.block) ⟨rfl, rfl, rfl, by simp [World.setCell], fun k hk hkn => Below.heap_setCell W q u k (fun e => hkn (by rw [e]))⟩ (fun e => h2 (by injection e with e; exact e.symm)), own_set h.jumps h3 u, h.apart, h.lp, h.lm, by simpa using h.lb⟩
theorem own_priv {w w' : World} {base B : Nat} {t : TypeId} {s : Nat} {v : Value} {n : Nat} {cs : List Value} {row : Option Nat} (h : w.ownsRow base t s v n cs) (hg : w.grownBy w' row) (hr : ∀ r, row = some r → B ≤ r ∧ (r < base ∨ ∃ o : Obj, w.heap[r]? = some o ∧ o.isCells = false)) : w'.ownsRow base t s v n cs := by
  refine h.kept hg ?_
  cases hv : v.ownBlock with
  | none => exact .inl rfl
  | some r =>
    refine .inr (fun e => ?_)
    obtain ⟨hb, o, ho, hoc⟩ := own_row h r hv
    rcases hr r e.symm with ⟨_, h1 | ⟨o', ho', hoc'⟩⟩
    · omega
    · rw [ho] at ho'
      injection ho' with ho'
      rw [← ho', hoc] at hoc'
      cases hoc'
theorem PgAt.priv (h : PgAt W base pb mb p v1 v2) {B : Nat} {row : Option Nat} (hp : pb < B) (hm : mb < B) (hg : W.grownBy W' row) (hr : ∀ r, row = some r → B ≤ r ∧ (r < base ∨ ∃ o : Obj, W.heap[r]? = some o ∧ o.isCells = false)) : PgAt W' base pb mb p v1 v2 :=
  ⟨h.blk.grown hg (fun e => by have := (hr _ e.symm).1; omega), own_priv h.words hg hr, h.labs.kept hg (fun e => by have := (hr _ e.symm).1; omega), own_priv h.jumps hg hr, h.apart, h.lp, h.lm, Nat.le_trans h.lb hg.size⟩
end
end Go.Proofs.YtoglmemmdolbmaaDoor.I
