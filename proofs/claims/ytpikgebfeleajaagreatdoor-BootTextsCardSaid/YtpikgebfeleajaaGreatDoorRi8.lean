/-
  What the document's take says of a line: plain. No condition.
-/
import Derived.Deep.AppendLies
import Derived.OwnWalk
import Derived.Test.YtpikgebfeleajaaGreatDoorRowMem
import Derived.Test.YtpikgebfeleajaaGreatDoorStr3
import Derived.Test.YtpikgebfeleajaaGreatDoorIs5
import Derived.Test.YtpikgebfeleajaaGreatDoorRi2h
namespace Go.Proofs.YtpikgebfeleajaaGreatDoor.I
section
open Go.RowKit
set_option linter.unusedVariables false
set_option linter.unusedSimpArgs false
attribute [local go_sem] Oper.semAt_some

theorem infoStrI : (Tryz.prog.info? 9).map (fun i => (i.zero, i.size, i.bytes)) = some (some (.string ⟨#[]⟩), 1, 16) := by kernel_rfl
theorem belowG {B : Nat} {w w1 w2 : World} {row : Option Nat} (h : Below B w w1) (hg : w1.grownBy w2 row) (hr : ∀ r, row = some r → B ≤ r) (hB : B ≤ w1.heap.size) : Below B w w2 :=
  ⟨hg.os.trans h.os, hg.tape.trans h.tape, hg.output.trans h.output, Nat.le_trans h.size hg.size, fun k hk => (hg.block k (by omega) (fun e => by have := hr k e.symm; omega)).trans (h.block k hk)⟩
theorem ownBlk {w : World} {base : Nat} {t : TypeId} {s : Nat} {v : Value} {n : Nat} {cs : List Value} (h : w.ownsRow base t s v n cs) : ∀ r, v.ownBlock = some r → base ≤ r := by
  rcases h.2 with ⟨rfl, _⟩ | ⟨g, cap, cur, rfl, hb, _⟩
  · intro r h; simp [Value.ownBlock] at h
  · intro r h; simp [Value.ownBlock] at h; omega
theorem pieces_snocI {c : UInt8} (h : c ≠ 32) : ∀ l : List UInt8, ∃ ini last, pieces l = ini ++ [last] ∧ pieces (l ++ [c]) = ini ++ [last ++ [c]]
  | [] => ⟨[], [], rfl, by simp [pieces, h]⟩
  | d :: r => by
    obtain ⟨ini, last, h1, h2⟩ := pieces_snocI h r
    by_cases hd : d = 32
    · subst hd
      exact ⟨[] :: ini, last, by rw [pieces_blank, h1]; rfl, by rw [List.cons_append, pieces_blank, h2]; rfl⟩
    · cases ini with
      | nil => exact ⟨[], d :: last, pieces_other hd r h1, by rw [List.cons_append]; exact pieces_other hd _ h2⟩
      | cons p ps => exact ⟨(d :: p) :: ps, last, pieces_other hd r h1, by rw [List.cons_append]; exact pieces_other hd _ h2⟩
theorem pieces_cutI : ∀ l : List UInt8, pieces (l ++ [32]) = pieces l ++ [[]]
  | [] => rfl
  | d :: r => by
    have ih := pieces_cutI r
    by_cases hd : d = 32
    · subst hd
      rw [List.cons_append, pieces_blank, pieces_blank, ih]
      rfl
    · obtain ⟨p, ps, hp⟩ := List.exists_cons_of_ne_nil (pieces_ne r)
      rw [hp] at ih
      rw [List.cons_append, pieces_other hd r hp, pieces_other hd _ ih]
      rfl
theorem pieces_lenI (l : List UInt8) : (pieces l).length ≤ l.length + 1 := by
  have : ∀ k (l : List UInt8), l.length = k → (pieces l).length ≤ k + 1 := by
    intro k
    induction k with
    | zero => intro l h; rw [List.eq_nil_of_length_eq_zero h]; exact Nat.le_refl _
    | succ k ih =>
      intro l h
      obtain ⟨d, r, rfl⟩ : ∃ d r, l = d :: r := by
        cases l with
        | nil => simp at h
        | cons d r => exact ⟨d, r, rfl⟩
      have hr := ih r (by simpa using h)
      by_cases hd : d = 32
      · subst hd
        rw [pieces_blank, List.length_cons]
        omega
      · obtain ⟨p, ps, hp⟩ := List.exists_cons_of_ne_nil (pieces_ne r)
        rw [pieces_other hd r hp]
        rw [hp] at hr
        simpa using Nat.le_succ_of_le hr
  exact this l.length l rfl
/-- Behind k signs: the words that are told, where the next one begins. -/
def SpI (s : List UInt8) (k a : Nat) (ps : List (List UInt8)) : Prop := (k ≤ s.length ∧ a ≤ k ∧ pieces (s.take k) = ps ++ [(s.take k).drop a]) ∨ (k = s.length + 1 ∧ ps = pieces s)
theorem sp_start (s : List UInt8) : SpI s 0 0 [] := .inl ⟨Nat.zero_le _, Nat.le_refl _, by rw [List.take_zero]; rfl⟩
theorem sp_len {s : List UInt8} {k a : Nat} {ps : List (List UInt8)} (h : SpI s k a ps) : ps.length ≤ s.length + 1 := by
  rcases h with ⟨h1, _, h3⟩ | ⟨_, rfl⟩
  · have h4 := pieces_lenI (s.take k)
    rw [h3, List.length_append, List.length_take] at h4
    simp only [List.length_cons, List.length_nil] at h4
    omega
  · exact pieces_lenI s
theorem sp_at {s : List UInt8} {k a : Nat} {ps : List (List UInt8)} (h : SpI s k a ps) (hk : k ≤ s.length) : a ≤ k ∧ pieces (s.take k) = ps ++ [(s.take k).drop a] := by
  rcases h with ⟨_, h2, h3⟩ | ⟨h1, _⟩
  · exact ⟨h2, h3⟩
  · omega
theorem sp_cut {s : List UInt8} {k a : Nat} {ps : List (List UInt8)} (h : SpI s k a ps) (hk : k < s.length) (hc : s[k]? = some 32) : SpI s (k + 1) (k + 1) (ps ++ [(s.take k).drop a]) := by
  obtain ⟨h2, h3⟩ := sp_at h (by omega)
  refine .inl ⟨hk, Nat.le_refl _, ?_⟩
  rw [List.take_add_one, hc]
  have e : (s.take k ++ [32]).drop (k + 1) = [] := List.drop_of_length_le (by rw [List.length_append, List.length_take]; show _ + 1 ≤ _; omega)
  show pieces (s.take k ++ [32]) = ps ++ [(s.take k).drop a] ++ [(s.take k ++ [32]).drop (k + 1)]
  rw [e, pieces_cutI, h3]
theorem sp_go {s : List UInt8} {k a : Nat} {ps : List (List UInt8)} (h : SpI s k a ps) (hk : k < s.length) {c : UInt8} (hc : s[k]? = some c) (hn : c ≠ 32) : SpI s (k + 1) a ps := by
  obtain ⟨h2, h3⟩ := sp_at h (by omega)
  refine .inl ⟨hk, by omega, ?_⟩
  rw [List.take_add_one, hc]
  show pieces (s.take k ++ [c]) = ps ++ [(s.take k ++ [c]).drop a]
  obtain ⟨ini, last, e1, e2⟩ := pieces_snocI hn (s.take k)
  rw [h3] at e1
  obtain ⟨f1, f2⟩ := List.append_inj' e1 rfl
  injection f2 with f2 _
  rw [e2, ← f1, ← f2, List.drop_append_of_le_length (by rw [List.length_take]; omega)]
theorem sp_last {s : List UInt8} {a : Nat} {ps : List (List UInt8)} (h : SpI s s.length a ps) : SpI s (s.length + 1) (s.length + 1) (ps ++ [(s.take s.length).drop a]) := by
  obtain ⟨h2, h3⟩ := sp_at h (Nat.le_refl _)
  refine .inr ⟨rfl, ?_⟩
  rw [← h3, List.take_length]
theorem sp_end {s : List UInt8} {a k : Nat} {ps : List (List UInt8)} (h : SpI s k a ps) (hk : s.length < k) : ps = pieces s := by
  rcases h with ⟨h1, _⟩ | ⟨_, h2⟩
  · omega
  · exact h2
theorem ext_seg (s : ByteArray) (a k : Nat) : (s.extract a k) = ⟨((s.data.toList.take k).drop a).toArray⟩ := by
  refine ByteArray.ext (Array.toList_inj.1 ?_)
  rw [ByteArray.data_extract, Array.toList_extract, List.extract_eq_take_drop, List.drop_take]
theorem ownStr_snoc {w : World} {base : Nat} {v : Value} {n : Nat} {ps : List (List UInt8)} {p : List UInt8} (h : w.ownsRow base 9 1 v n (ps.map strV ++ [strV p])) : w.ownsRow base 9 1 v n ((ps ++ [p]).map strV) := by
  rw [List.map_append]
  exact h

set_option maxRecDepth 100000 in
set_option maxHeartbeats 4000000 in
theorem refSplit_any {w : World} (s : ByteArray) (hs : s.size ≤ 1000000) :
    Calls Tryz.prog 87 #[.string s] w fun e w' => ∃ v, e = .returned v ∧ w'.ownsRow w.heap.size 9 1 v (pieces s.data.toList).length ((pieces s.data.toList).map strV) ∧ Below w.heap.size w w' := by
  obtain ⟨i0, hi, hz0, hz1, hz2⟩ := info_parts infoStrI
  have hsl : s.data.toList.length = s.size := by rw [Array.length_toList]; rfl
  have HSL := Lib.hid hsl
  clear hsl
  go_enter Tryz.func87, Tryz.ntmps87
  go_wp2
  go_loopw [3, 4, 5] (fun v x i wr => ∃ (k a : Nat) (ps : List (List UInt8)), i = .int .i64 (k : Int) ∧ x = .int .i64 (a : Int) ∧ k ≤ s.size + 1 ∧ Hid (SpI s.data.toList k a ps) ∧ wr.ownsRow w.heap.size 9 1 v ps.length (ps.map strV) ∧ Below w.heap.size w wr) (fun _ _ i _ => s.size + 1 - (intOf i).toNat)
  case atStart => exact ⟨0, 0, [], rfl, rfl, Nat.zero_le _, sp_start _, World.ownsRow_nil _ _ _ _, Below.refl _ _⟩
  case round =>
    obtain ⟨k, a, ps, rfl, rfl, hk, HS, hown, hB⟩ := hrel
    have hs1 := hB.size
    have hpl := sp_len HS.out
    rw [HSL.out] at hpl
    by_cases hks : k ≤ s.size
    · have hka : (k : Int) ≤ (s.size : Int) := by omega
      have hak := (sp_at HS.out (by rw [HSL.out]; exact hks)).1
      have haki : (a : Int) ≤ (k : Int) := by omega
      have ha0 : (0 : Int) ≤ (a : Int) := by omega
      have hown0 := hown
      have HO := Lib.hid hown
      have HX := Lib.hid (ext_seg s a k)
      clear hown
      by_cases hke : k = s.size
      · have HS2 := Lib.hid (show SpI s.data.toList (k + 1) (k + 1) (ps ++ [(s.data.toList.take k).drop a]) from by
          have h := HS.out
          rw [hke, ← HSL.out] at h ⊢
          exact sp_last h)
        subst hke
        obtain ⟨sg, hsg⟩ : ∃ sg, (s.data.toList.take s.size).drop a = sg := ⟨_, rfl⟩
        rw [hsg] at HS2 HX
        have HSG := Lib.hid hsg
        clear hsg
        go_wp2_with (at_builtin; refine wpList_append_own _ rfl _ _ 106 rfl w.heap.size 9 i0 (.string ⟨#[]⟩) 1 16 Tryz.underlying106 hi hz0 hz1 hz2 rfl (by decide) _ _ _ rfl (hown0.alloc _) ⟨wr.heap.size, 0, none⟩ 1 1 [.string (s.extract a s.size)] rfl rfl (cells_new _ _ _) (by simp [Value.oneCell']) (by unfold maxLen; omega) (by omega) (by simp; omega) ?_; intro v' w1 hown' hgrow _)
        have hown2 : w1.ownsRow w.heap.size 9 1 v' (ps ++ [sg]).length ((ps ++ [sg]).map strV) := by
          rw [List.length_append]
          rw [HX.out] at hown'
          exact ownStr_snoc hown'
        have HO2 := Lib.hid hown2
        have HB2 := Lib.hid (belowG (hB.alloc hs1 _) hgrow (ownBlk HO.out) (by simp; omega))
        clear hown' hown2 hgrow hown0
        go_wp2
        go_roundw
        case rel => exact ⟨s.size + 1, s.size + 1, ps ++ [sg], by go_num, by go_num, by omega, HS2, HO2.out, HB2.out⟩
        case measure => first | (simp [intOf]; omega) | (simp [intOf]; done)
      · have hkl : k < s.size := by omega
        have hkli : (k : Int) < (s.size : Int) := by omega
        have hkne : ¬ (k : Int) = (s.size : Int) := by omega
        have hcs : s.data.toList[k]? = some s[k] := by rw [List.getElem?_eq_getElem (by rw [HSL.out]; exact hkl), Array.getElem_toList]; rfl
        by_cases hc : s[k] = 32
        · have hcb : ((s[k].toNat : Int) == 32) = true := by rw [hc]; rfl
          have HS2 := Lib.hid (sp_cut HS.out (by rw [HSL.out]; exact hkl) (by rw [hcs, hc]))
          obtain ⟨sg, hsg⟩ : ∃ sg, (s.data.toList.take k).drop a = sg := ⟨_, rfl⟩
          rw [hsg] at HS2 HX
          have HSG := Lib.hid hsg
          clear hsg hcs hc
          go_wp2_with (at_builtin; refine wpList_append_own _ rfl _ _ 106 rfl w.heap.size 9 i0 (.string ⟨#[]⟩) 1 16 Tryz.underlying106 hi hz0 hz1 hz2 rfl (by decide) _ _ _ rfl (hown0.alloc _) ⟨wr.heap.size, 0, none⟩ 1 1 [.string (s.extract a k)] rfl rfl (cells_new _ _ _) (by simp [Value.oneCell']) (by unfold maxLen; omega) (by omega) (by simp; omega) ?_; intro v' w1 hown' hgrow _)
          have hown2 : w1.ownsRow w.heap.size 9 1 v' (ps ++ [sg]).length ((ps ++ [sg]).map strV) := by
            rw [List.length_append]
            rw [HX.out] at hown'
            exact ownStr_snoc hown'
          have HO2 := Lib.hid hown2
          have HB2 := Lib.hid (belowG (hB.alloc hs1 _) hgrow (ownBlk HO.out) (by simp; omega))
          clear hown' hown2 hgrow hown0
          go_wp2
          go_roundw
          case rel => exact ⟨k + 1, k + 1, ps ++ [sg], by go_num, by go_num, by omega, HS2, HO2.out, HB2.out⟩
          case measure => first | (simp [intOf]; omega) | (simp [intOf]; done)
        · have hcb : ((s[k].toNat : Int) == 32) = false := by
            rw [beq_eq_false_iff_ne]
            intro h
            exact hc (UInt8.toNat_inj.1 (by show s[k].toNat = 32; omega))
          have HS2 := Lib.hid (sp_go HS.out (by rw [HSL.out]; exact hkl) hcs hc)
          clear hcs hc hown0
          go_wp2
          go_roundw
          case rel => exact ⟨k + 1, a, ps, by go_num, rfl, by omega, HS2, HO.out, hB⟩
          case measure => first | (simp [intOf]; omega) | (simp [intOf]; done)
    · have hka : ¬ (k : Int) ≤ (s.size : Int) := by omega
      have HE := Lib.hid (sp_end HS.out (by rw [HSL.out]; omega))
      have HO := Lib.hid hown
      clear hown
      go_wp2
      go_ret
      exact ⟨_, rfl, by rw [← HE.out]; exact HO.out, hB⟩
end
end Go.Proofs.YtpikgebfeleajaaGreatDoor.I
namespace Go.Proofs.YtpikgebfeleajaaGreatDoor.I
section
open Go.RowKit
set_option linter.unusedVariables false
set_option linter.unusedSimpArgs false

def jC (c : UInt8) : Nat := if c = 97 then 0 else if c = 98 then 1 else 2
def stL (l : List UInt8) (o : Option NmS) : Option NmS := l.foldl (fun o c => o.bind (stepN (jC c) true)) o
theorem stL_snoc (l : List UInt8) (c : UInt8) (o : Option NmS) : stL (l ++ [c]) o = (stL l o).bind (stepN (jC c) true) := by unfold stL; rw [List.foldl_append]; rfl
theorem stL_none : ∀ l : List UInt8, stL l none = none
  | [] => rfl
  | c :: l => by show stL l none = none; exact stL_none l
theorem bind_no (j : Nat) (o : Option NmS) : o.bind (stepN j false) = o := by cases o <;> rfl
theorem namedO_lets {ws : List (List UInt8)} {k : Nat} (hk : opW (ws.getD 0 []) = k) (h : k < 30) : namedO ws = stL (letsI (k : Int)) (some (nm0 ws)) := by
  unfold namedO
  rw [hk, if_pos h]
  unfold nm3 nm2 nm1 letsI
  rw [if_pos (by omega), fR_in h]
  generalize some (nm0 ws) = o
  have w0 : wantF k 0 = decide (0 ≤ fA k) := rfl
  have w1 : wantF k 1 = decide (0 ≤ fB k) := rfl
  have w2 : wantF k 2 = fI k := rfl
  rw [w0, w1, w2]
  have j1 : jC 97 = 0 := rfl
  have j2 : jC 98 = 1 := rfl
  have j3 : jC 105 = 2 := rfl
  by_cases h1 : 0 ≤ fA k
  · by_cases h2 : 0 ≤ fB k
    · cases h3 : fI k <;> simp [h1, h2, stL, j1, j2, j3, bind_no]
    · cases h3 : fI k <;> simp [h1, h2, stL, j1, j2, j3, bind_no]
  · by_cases h2 : 0 ≤ fB k
    · cases h3 : fI k <;> simp [h1, h2, stL, j1, j2, j3, bind_no]
    · cases h3 : fI k <;> simp [h1, h2, stL, j1, j2, j3, bind_no]
theorem step_ws {j : Nat} {s s' : NmS} (h : stepN j true s = some s') : ∃ w, s.ws = w :: s'.ws := by
  unfold stepN at h
  rw [if_pos rfl] at h
  cases hs : s.ws with
  | nil => rw [hs] at h; cases h
  | cons w r =>
    rw [hs] at h
    simp only at h
    split at h
    · injection h with h; exact ⟨w, by rw [← h]⟩
    · split at h
      · injection h with h; exact ⟨w, by rw [← h]⟩
      · cases h
theorem step_op {j : Nat} {s s' : NmS} (h : stepN j true s = some s') : s'.x.op = s.x.op := by
  unfold stepN at h
  rw [if_pos rfl] at h
  cases hs : s.ws with
  | nil => rw [hs] at h; cases h
  | cons w r =>
    rw [hs] at h
    simp only at h
    split at h
    · injection h with h; rw [← h]; exact putF_op _ _ _
    · split at h
      · injection h with h; rw [← h]
      · cases h
theorem stL_rest : ∀ {l : List UInt8} {s s' : NmS}, stL l (some s) = some s' → s'.x.op = s.x.op ∧ s.ws.length = s'.ws.length + l.length ∧ s'.ws = s.ws.drop l.length
  | [], s, s', h => by injection h with h; subst h; exact ⟨rfl, rfl, rfl⟩
  | c :: l, s, s', h => by
    have h2 : stL l (stepN (jC c) true s) = some s' := h
    cases hs : stepN (jC c) true s with
    | none => rw [hs, stL_none] at h2; cases h2
    | some t =>
      rw [hs] at h2
      obtain ⟨e1, e2, e3⟩ := stL_rest h2
      obtain ⟨w, hw⟩ := step_ws hs
      refine ⟨e1.trans (step_op hs), ?_, ?_⟩
      · rw [hw, List.length_cons, List.length_cons, e2]; omega
      · rw [hw, List.length_cons, List.drop_succ_cons, e3]
theorem stL_take {l : List UInt8} {i : Nat} {o : Option NmS} (h : stL (l.take i) o = none) : stL l o = none := by
  have e : stL l o = stL (l.drop i) (stL (l.take i) o) := by
    unfold stL
    rw [← List.foldl_append, List.take_append_drop]
  rw [e, h, stL_none]
theorem namedT_len {ws : List (List UInt8)} {k : Nat} (hk : opW (ws.getD 0 []) = k) (h : k < 30) (hne : ws ≠ []) (hl : ws.length ≠ 1 + (letsI (k : Int)).length) : (namedT ws).is = false := by
  unfold namedT
  rw [namedO_lets hk h]
  cases hs : stL (letsI (k : Int)) (some (nm0 ws)) with
  | none => rfl
  | some s =>
    obtain ⟨_, e2, _⟩ := stL_rest hs
    have e : (nm0 ws).ws = ws.tail := rfl
    rw [e, List.length_tail] at e2
    have hp := List.length_pos_iff.2 hne
    simp only
    have : s.ws.isEmpty = false := by
      cases hw : s.ws with
      | nil => rw [hw] at e2; simp only [List.length_nil] at e2; omega
      | cons => rfl
    rw [this]
    rfl
theorem namedT_bad {ws : List (List UInt8)} {k : Nat} (hk : opW (ws.getD 0 []) = k) (h : k < 30) {i : Nat} (hs : stL ((letsI (k : Int)).take i) (some (nm0 ws)) = none) : (namedT ws).is = false := by
  unfold namedT
  rw [namedO_lets hk h, stL_take hs]
theorem namedT_good {ws : List (List UInt8)} {k : Nat} (hk : opW (ws.getD 0 []) = k) (h : k < 30) (hl : ws.length = 1 + (letsI (k : Int)).length) {s : NmS} (hs : stL (letsI (k : Int)) (some (nm0 ws)) = some s) : namedT ws = ⟨s.x, s.lab, decide (MayI s.x)⟩ := by
  unfold namedT
  rw [namedO_lets hk h, hs]
  obtain ⟨_, e2, _⟩ := stL_rest hs
  have e : (nm0 ws).ws = ws.tail := rfl
  rw [e, List.length_tail] at e2
  simp only
  have : s.ws.isEmpty = true := by
    cases hw : s.ws with
    | nil => rfl
    | cons => rw [hw] at e2; simp only [List.length_cons] at e2; omega
  rw [this]
  rfl
theorem lets_mem {k : Nat} (h : k < 30) : ∀ c ∈ letsI (k : Int), c = 97 ∨ c = 98 ∨ c = 105 := by
  have : ∀ k : Fin 30, ((letsI (k.1 : Int)).all fun c => decide (c = 97 ∨ c = 98 ∨ c = 105)) = true := by decide +kernel
  have h2 := this ⟨k, h⟩
  rw [List.all_eq_true] at h2
  intro c hc
  exact of_decide_eq_true (h2 c hc)
theorem lets_len (k : Nat) (h : k < 30) : (letsI (k : Int)).length ≤ 3 := by
  have : ∀ k : Fin 30, (letsI (k.1 : Int)).length ≤ 3 := by decide +kernel
  exact this ⟨k, h⟩
theorem name_hit {l : List UInt8} {k : Nat} (hk : k < 30) : fN k = ⟨l.toArray⟩ ↔ opW l = k := by
  constructor
  · intro e
    have h : (rowF k).1 = l := by
      have := congrArg (fun b : ByteArray => b.data.toList) e
      simpa [fN] using this
    rw [← h]
    exact opW_row ⟨k, hk⟩
  · intro e
    subst e
    show (⟨(rowF (opW l)).1.toArray⟩ : ByteArray) = _
    rw [opW_word hk]
theorem pieces_each {n : Nat} : ∀ {l : List UInt8}, l.length ≤ n → ∀ x ∈ pieces l, x.length ≤ n := by
  have : ∀ k (l : List UInt8), l.length = k → ∀ x ∈ pieces l, x.length ≤ k := by
    intro k
    induction k with
    | zero =>
      intro l h x hx
      rw [List.eq_nil_of_length_eq_zero h] at hx
      have e : pieces ([] : List UInt8) = [[]] := rfl
      rw [e, List.mem_singleton] at hx
      rw [hx]
      exact Nat.le_refl _
    | succ k ih =>
      intro l h x hx
      obtain ⟨d, r, rfl⟩ : ∃ d r, l = d :: r := by
        cases l with
        | nil => simp at h
        | cons d r => exact ⟨d, r, rfl⟩
      have hr := ih r (by simpa using h)
      by_cases hd : d = 32
      · subst hd
        rw [pieces_blank] at hx
        rcases List.mem_cons.1 hx with rfl | hx
        · simp
        · have := hr x hx; omega
      · obtain ⟨p, ps, hp⟩ := List.exists_cons_of_ne_nil (pieces_ne r)
        rw [pieces_other hd r hp] at hx
        rw [hp] at hr
        rcases List.mem_cons.1 hx with rfl | hx
        · have := hr p (List.mem_cons_self ..)
          rw [List.length_cons]
          omega
        · have := hr x (List.mem_cons_of_mem _ hx)
          omega
  intro l h x hx
  exact Nat.le_trans (this l.length l rfl x hx) h
theorem ownsRow_succ' {w : World} {base : Nat} {t : TypeId} {s : Nat} {v : Value} {n : Nat} {cs : List Value} (h : w.ownsRow base t s v (n + 1) cs) : ∃ g cap, v = .slice (some ⟨g, 0, none⟩) (n + 1) cap := by
  rcases h.2 with ⟨_, hz⟩ | ⟨g, cap, cur, hv, _⟩
  · omega
  · exact ⟨g, cap, hv⟩
theorem own_cap {w : World} {base : Nat} {t : TypeId} {s : Nat} {A : Option Addr} {n m cap : Nat} {cs : List Value} (h : w.ownsRow base t s (.slice A m cap) (n + 1) cs) : n + 1 ≤ cap := by
  rcases h.2 with ⟨_, hz⟩ | ⟨g, cap', cur, hv, _, _, hnc, _⟩
  · omega
  · injection hv with _ _ h3
    omega
/-- The instruction's number when the first k names have been looked at. -/
def opT (o k : Nat) : Int := if o < k then (o : Int) else -1
theorem opT_hit (k : Nat) : opT k (k + 1) = (k : Int) := if_pos (Nat.lt_succ_self k)
theorem opT_miss {o k : Nat} (h : o ≠ k) : opT o (k + 1) = opT o k := by
  unfold opT
  by_cases h1 : o < k
  · rw [if_pos h1, if_pos (by omega)]
  · rw [if_neg h1, if_neg (by omega)]
end
end Go.Proofs.YtpikgebfeleajaaGreatDoor.I
