/-
  A program of calls is the list of its words (plain). No condition.
-/
import Derived.Test.YthmjddnccgiinaaDoorCa9
import Derived.Test.YthmjddnccgiinaaDoorIsPa
namespace Go.Proofs.YthmjddnccgiinaaDoor
set_option linter.unusedVariables false
set_option linter.unusedSimpArgs false

theorem may_li {a m : Int} (h0 : 0 ≤ a) (h1 : a ≤ 7) (h2 : -32768 ≤ m) (h3 : m ≤ 32767) : I.MayI ⟨1, a, 0, m⟩ := by
  have e1 : I.fA (I.fR 1) = 7 := by decide +kernel
  have e2 : I.fB (I.fR 1) = -1 := by decide +kernel
  have e3 : I.fI (I.fR 1) = true := by decide +kernel
  refine ⟨⟨by simp only; omega, by simp only; omega⟩, ⟨h0, ?_⟩, ⟨by simp only; omega, ?_⟩, .inr ⟨e3, h2, h3⟩⟩
  · show a ≤ max (I.fA (I.fR 1)) 0; rw [e1]; omega
  · show (0 : Int) ≤ max (I.fB (I.fR 1)) 0; rw [e2]; decide
theorem may_sys : I.MayI ⟨24, 0, 0, 0⟩ := by decide +kernel
theorem line_li (a m : Int) : I.lineI ⟨1, a, 0, m⟩ = [108, 105, 32] ++ (Lib.itoa a ++ 32 :: Lib.itoa m) := by
  have e1 : I.fA (I.fR 1) = 7 := by decide +kernel
  have e2 : I.fB (I.fR 1) = -1 := by decide +kernel
  have e3 : I.fI (I.fR 1) = true := by decide +kernel
  have e4 : I.nameI 1 = [108, 105] := by decide +kernel
  unfold I.lineI I.wordsI
  simp only
  rw [e1, e2, e3, e4, if_pos (by decide), if_neg (by decide), if_pos rfl]
  simp only [List.cons_append, List.nil_append]
  rw [glue_two, glue_two]
  rfl
theorem line_sys : I.lineI ⟨24, 0, 0, 0⟩ = [115, 121, 115] := by decide +kernel
theorem lineW_enc {y : I.Ins} (h : I.MayI y) : I.lineW (I.encI y) = I.lineI y := by
  unfold I.lineW
  rw [I.dec_enc h, if_pos h]
def argW (g : Ag) : Int := I.encI ⟨1, 1 + (g.1.val : Int), 0, g.2⟩
def wordC (x : Cl) : List Int := I.encI ⟨1, 0, 0, x.n⟩ :: ((agL x.n x.a x.b x.c).map argW ++ [I.encI ⟨24, 0, 0, 0⟩])
def allW (l : List Cl) : List Int := l.flatMap wordC
theorem itoa_nat {n : Int} (h : 0 ≤ n) : Lib.itoa n = Lib.decDigits n.toNat := by unfold Lib.itoa; rw [if_neg (by omega)]
theorem agL_small {x : Cl} (hr : RangeC x) (hf : FineC x) : ∀ g ∈ agL x.n x.a x.b x.c, (0 ≤ g.2 ∧ g.2 ≤ 32767) ∧ (g.1.val : Int) ≤ 2 := fun g hg => by
  have h1 := agL_range hr g hg
  have h2 := List.mem_of_mem_take hg
  refine ⟨⟨h1.1, ?_⟩, by have := g.1.isLt; omega⟩
  obtain ⟨_, ha, hb, hc⟩ := hf
  unfold agAll at h2
  simp only [List.mem_cons, List.not_mem_nil, or_false] at h2
  rcases h2 with rfl | rfl | rfl
  · exact ha
  · exact hb
  · exact hc
theorem arg_may {x : Cl} (hr : RangeC x) (hf : FineC x) {g : Ag} (hg : g ∈ agL x.n x.a x.b x.c) : I.MayI ⟨1, 1 + (g.1.val : Int), 0, g.2⟩ := by
  have := agL_small hr hf g hg
  exact may_li (by omega) (by omega) (by omega) (by omega)
theorem num_may {x : Cl} (hf : FineC x) : I.MayI ⟨1, 0, 0, x.n⟩ := by
  have := may_num hf.1.1
  exact may_li (by omega) (by omega) (by omega) (by omega)
theorem callP_list {x : Cl} (hr : RangeC x) (hf : FineC x) : callP x = I.listP (wordC x) := by
  unfold callP I.listP wordC
  rw [List.flatMap_cons, List.flatMap_append, List.flatMap_cons, List.flatMap_nil, lineW_enc (num_may hf), line_li, lineW_enc may_sys, line_sys, List.flatMap_def, List.flatMap_def, List.map_map]
  have hm : (agL x.n x.a x.b x.c).map argP = (agL x.n x.a x.b x.c).map ((fun w => I.lineW w ++ [10]) ∘ argW) := List.map_congr_left fun g hg => by
    show argP g = I.lineW (argW g) ++ [10]
    unfold argW argP wordG
    rw [lineW_enc (arg_may hr hf hg), line_li, itoa_nat (agL_small hr hf g hg).1.1]
    simp
  rw [hm]
  unfold numP
  have e : Lib.itoa 0 = [48] := by decide +kernel
  rw [e]
  simp
theorem wordC_range {x : Cl} (hr : RangeC x) (hf : FineC x) : ∀ w ∈ wordC x, I.RangeW w := fun w hw => by
  unfold wordC at hw
  rcases List.mem_cons.1 hw with rfl | hw
  · exact I.encI_range (num_may hf)
  · rcases List.mem_append.1 hw with hw | hw
    · obtain ⟨g, hg, rfl⟩ := List.mem_map.1 hw
      exact I.encI_range (arg_may hr hf hg)
    · rw [List.mem_singleton.1 hw]
      exact I.encI_range may_sys
theorem progL_list : ∀ {l : List Cl}, (∀ x ∈ l, RangeC x ∧ FineC x) → progL l = I.listP (allW l)
  | [], _ => rfl
  | x :: l, h => by
    have h1 := h x (List.mem_cons_self ..)
    have ih := progL_list (l := l) fun y hy => h y (List.mem_cons_of_mem _ hy)
    unfold progL allW I.listP at *
    rw [List.flatMap_cons, List.flatMap_cons, List.flatMap_append, ih, callP_list h1.1 h1.2]
    rfl
theorem wordC_len (x : Cl) : (wordC x).length = 2 + agN x.n := by
  unfold wordC
  simp only [List.length_cons, List.length_append, List.length_map, List.length_nil, agL_len]
  omega
theorem allW_len : ∀ (l : List Cl), (allW l).length ≤ l.length * 5
  | [] => Nat.le_refl _
  | x :: l => by
    have ih := allW_len l
    have h1 := wordC_len x
    have h2 := agN_le x.n
    unfold allW at *
    rw [List.flatMap_cons, List.length_append, List.length_cons]
    omega
theorem asm_prog {l : List Cl} (h : ∀ x ∈ l, RangeC x ∧ FineC x) (hl : l.length ≤ 60) : I.asmP (progL l) = (allW l, 0, 0) := by
  have h2 := allW_len l
  rw [progL_list h]
  refine I.asm_list (fun w hw => ?_) (by omega)
  obtain ⟨x, hx, hw⟩ := List.mem_flatMap.1 hw
  exact wordC_range (h x hx).1 (h x hx).2 w hw
/-- Where a call's words begin. -/
def offW (l : List Cl) (i : Nat) : Nat := (allW (l.take i)).length
theorem offW_step {l : List Cl} {i : Nat} {x : Cl} (h : l[i]? = some x) : offW l (i + 1) = offW l i + (2 + agN x.n) := by
  unfold offW allW
  rw [List.take_add_one, h]
  simp only [Option.toList_some, List.flatMap_append, List.length_append, List.flatMap_cons, List.flatMap_nil, List.append_nil, wordC_len]
theorem offW_all (l : List Cl) : offW l l.length = (allW l).length := by unfold offW; rw [List.take_length]
theorem allW_at {l : List Cl} {i j : Nat} {x : Cl} (h : l[i]? = some x) (hj : j < 2 + agN x.n) : (allW l)[offW l i + j]? = (wordC x)[j]? := by
  have hi := (List.getElem?_eq_some_iff.1 h).1
  have e : allW l = allW (l.take i) ++ (wordC x ++ allW (l.drop (i + 1))) := by
    unfold allW
    rw [← List.flatMap_cons, ← List.flatMap_append]
    congr 1
    have hx : l[i] = x := (List.getElem?_eq_some_iff.1 h).2
    rw [← hx, List.getElem_cons_drop, List.take_append_drop]
  rw [e]
  unfold offW
  rw [List.getElem?_append_right (by omega), Nat.add_sub_cancel_left, List.getElem?_append_left (by rw [wordC_len]; exact hj)]
def wantC (x : Cl) (j : Nat) : Int := [x.n, x.a, x.b, x.c].getD j 0
theorem wordC_at {x : Cl} {j : Nat} (hj : j < 1 + agN x.n) : (wordC x)[j]? = some (I.encI ⟨1, (j : Int), 0, wantC x j⟩) := by
  unfold wordC
  match j with
  | 0 => rfl
  | j + 1 =>
    have h3 := agN_le x.n
    have hj3 : j < 3 := by omega
    have hL := agL_len x.n x.a x.b x.c
    rw [List.getElem?_cons_succ, List.getElem?_append_left (by rw [List.length_map, hL]; omega), List.getElem?_map]
    unfold agL
    rw [List.getElem?_take_of_lt (by omega), agAll_at x.a x.b x.c hj3]
    show some (argW _) = _
    unfold argW wantC
    simp only [List.getD_cons_succ]
    congr 2
    simp only [I.Ins.mk.injEq, true_and, and_true]
    omega
theorem wordC_last (x : Cl) : (wordC x)[1 + agN x.n]? = some (I.encI ⟨24, 0, 0, 0⟩) := by
  unfold wordC
  have hL := agL_len x.n x.a x.b x.c
  rw [Nat.add_comm, List.getElem?_cons_succ, List.getElem?_append_right (by rw [List.length_map, hL]; omega), List.length_map, hL, Nat.sub_self]
  rfl
theorem want_may {x : Cl} (hr : RangeC x) (hf : FineC x) {j : Nat} (hj : j < 1 + agN x.n) : I.MayI ⟨1, (j : Int), 0, wantC x j⟩ := by
  have h3 := agN_le x.n
  have h0 := may_num hf.1.1
  obtain ⟨_, ha, hb, hc⟩ := hf
  obtain ⟨ra, rb, rc⟩ := hr
  refine may_li (by omega) (by omega) ?_ ?_ <;> rcases (show j = 0 ∨ j = 1 ∨ j = 2 ∨ j = 3 by omega) with rfl | rfl | rfl | rfl <;> (simp only [wantC, List.getD_cons_zero, List.getD_cons_succ]; omega)
end Go.Proofs.YthmjddnccgiinaaDoor
