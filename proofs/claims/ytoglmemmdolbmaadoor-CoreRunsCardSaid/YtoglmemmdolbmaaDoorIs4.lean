/-
  isa.number: a word's number. Condition: the table of powers of ten lies as the library's text lays it.
-/
import Derived.WalkMore
import Derived.ScopeJumps
import Derived.Test.YtoglmemmdolbmaaDoorStr3
import Derived.Test.YtoglmemmdolbmaaDoorIs3
namespace Go.Proofs.YtoglmemmdolbmaaDoor.I
open Go.RowKit Go.Shelf
set_option linter.unusedVariables false
set_option linter.unusedSimpArgs false
attribute [local go_sem] Oper.semAt_some

theorem bytes_eq {a b : ByteArray} (h : a.data.toList = b.data.toList) : a = b := by
  cases a with | mk d => cases b with | mk e => cases d; cases e; simp at h; simp [h]
theorem seq_true {a b : ByteArray} (h : a = b) : (a.toList == b.toList) = true := by rw [h]; simp
theorem seq_false {a b : ByteArray} (h : a ≠ b) : (a.toList == b.toList) = false := by
  rw [Lib.toList_data, Lib.toList_data, beq_eq_false_iff_ne]
  exact fun he => h (bytes_eq he)
theorem negS_prefix (l : List UInt8) : Lib.hasPrefix l [45] = negS l := by
  cases l with
  | nil => rfl
  | cons c r =>
    show (45 == c && true) = decide (c = 45)
    rw [Bool.and_true, Bool.beq_comm]
    exact Bool.beq_eq_decide_eq _ _
/-- What holds at every jump: so many bytes are read. -/
structure NJ (w : World) (s : ByteArray) (acc : Int) (i : Nat) (W : World) : Prop where
  b : Below w.heap.size w W
  le : i ≤ s.size
  n : ∃ pre, bodyS s.data.toList = pre ++ s.data.toList.drop i ∧ pre.all isD = true ∧ acc = accD 0 pre
theorem nj_start {w W : World} {s : ByteArray} (hb : Below w.heap.size w W) : NJ w s 0 (if negS s.data.toList then 1 else 0) W := by
  refine ⟨hb, ?_, [], ?_, rfl, rfl⟩
  · split
    · rename_i h
      have hne : s.data.toList ≠ [] := fun e => by rw [e] at h; cases h
      have : 0 < s.data.toList.length := List.length_pos_iff.2 hne
      exact this
    · exact Nat.zero_le _
  · unfold bodyS
    split
    · rw [List.nil_append, List.drop_one]
    · rfl
theorem nj_len {w W : World} {s : ByteArray} {acc : Int} {i : Nat} (h : NJ w s acc i W) (hs : s.size ≤ 10) : 0 ≤ acc ∧ acc < 10000000000 := by
  obtain ⟨pre, h1, h2, rfl⟩ := h.n
  refine accD_le ?_ h2
  have h3 := bodyS_len s.data.toList
  rw [h1, List.length_append] at h3
  have e : s.data.toList.length = s.size := rfl
  omega
theorem nj_step {w W : World} {s : ByteArray} {acc : Int} {i : Nat} (h : NJ w s acc i W) (hi : i < s.size) (hd : isD (s[i]'hi) = true) : NJ w s (acc * 10 + (((s[i]'hi).toNat : Int) - 48)) (i + 1) W := by
  obtain ⟨pre, h1, h2, rfl⟩ := h.n
  refine ⟨h.b, hi, pre ++ [s[i]'hi], ?_, ?_, ?_⟩
  · rw [h1, drop_at s hi, List.append_assoc]
    rfl
  · rw [List.all_append, h2]
    simp [hd]
  · rw [accD_app]
    rfl
theorem nj_end {w W : World} {s : ByteArray} {acc : Int} (h : NJ w s acc s.size W) (hs : s.size ≤ 10) : numN s.data.toList = sgnS s.data.toList * acc ∧ numB s.data.toList = decide (Lib.itoa (sgnS s.data.toList * acc) = s.data.toList) := by
  obtain ⟨pre, h1, h2, rfl⟩ := h.n
  rw [List.drop_eq_nil_of_le (by rw [Array.length_toList]; exact Nat.le_refl _), List.append_nil] at h1
  have e : s.data.toList.length = s.size := rfl
  have hn : numN s.data.toList = sgnS s.data.toList * accD 0 pre := by
    unfold numN
    rw [if_neg (by omega), h1, if_pos h2]
  refine ⟨hn, ?_⟩
  have hr := numN_range s.data.toList
  unfold numB
  rw [h1, h2, itoaF_eq (by omega) (by omega), hn]
  simp [hs]
theorem nj_bad {w W : World} {s : ByteArray} {acc : Int} {i : Nat} (h : NJ w s acc i W) (hi : i < s.size) (hd : isD (s[i]'hi) = false) : numN s.data.toList = 0 ∧ numB s.data.toList = false := by
  obtain ⟨pre, h1, h2, rfl⟩ := h.n
  have hb : (bodyS s.data.toList).all isD = false := by
    rw [h1, drop_at s hi, List.all_append, List.all_cons, hd]
    simp
  constructor
  · unfold numN
    rw [hb]
    simp
  · unfold numB
    rw [hb]
    simp
theorem wp_jumps2 {P : Program} {a : Act} {w : World} {Q : Exit → Act → World → Prop} {c X : Code} (l : Nat) (J : Act → World → Prop) (μ : Act → World → Nat) (hf : findLabel c l = some (Code.skip.seq X))
    (first : (∀ a w, J a w → X.wp P (Exit.jump l J Q) a w) → c.wp P (Exit.jump l J Q) a w)
    (pass : ∀ a w, J a w → X.wp P (Exit.jump l (fun a' w' => J a' w' ∧ μ a' w' < μ a w) Q) a w) : (Code.scope c).wp P Q a w :=
  wp_scope_jumps l J μ hf (first fun a w h => Go.wp_mono (pass a w h) (fun e a' w' hq => by
    cases e
    case goto => exact ⟨hq.1, hq.2.1⟩
    all_goals exact hq)) (fun a w h => wp_seq (wp_skip (pass a w h)))
theorem isD_yes {c : UInt8} (h1 : 48 ≤ c.toNat) (h2 : c.toNat ≤ 57) : isD c = true := decide_eq_true ⟨h1, h2⟩
theorem isD_no {c : UInt8} (h : c.toNat < 48 ∨ 57 < c.toNat) : isD c = false := decide_eq_false (by omega)

set_option maxRecDepth 100000 in
set_option maxHeartbeats 4000000 in
theorem number_long (w : World) (s : ByteArray) (hl : 10 < s.size) : Calls Tryd.prog 69 #[.string s] w fun e w' => e = .returned (.tuple #[.int .i64 (numN s.data.toList), .bool (numB s.data.toList)]) ∧ Below w.heap.size w w' := by
  have e1 : numN s.data.toList = 0 := if_pos hl
  have e2 : numB s.data.toList = false := by
    unfold numB
    have : decide (s.data.toList.length ≤ 10) = false := decide_eq_false (by show ¬ s.size ≤ 10; omega)
    rw [this]
    rfl
  rw [e1, e2]
  have hi : (10 : Int) < (s.size : Int) := by omega
  clear e1 e2 hl
  go_enter Tryd.func69, Tryd.ntmps69
  go_wp2
  refine wp_scope_jumps 0 (fun _ _ => False) (fun _ _ => 0) rfl ?_ (fun _ _ h => h.elim)
  go_wp2
  simp only [Exit.jump]
  go_ret2
  exact ⟨rfl, Below.refl _ _⟩

set_option maxRecDepth 100000 in
set_option maxHeartbeats 4000000 in
theorem number_plain {w : World} (hP : Pow w) (s : ByteArray) (hs : s.size ≤ 10) (hng : negS s.data.toList = false) : Calls Tryd.prog 69 #[.string s] w fun e w' => e = .returned (.tuple #[.int .i64 (numN s.data.toList), .bool (numB s.data.toList)]) ∧ Below w.heap.size w w' := by
  have hi10 : (s.size : Int) ≤ 10 := by omega
  have HH := Lib.hid (show Calls Tryd.prog 84 #[.string s, .string ⟨#[45]⟩] w fun e w' => e = .returned (.bool false) ∧ w' = w from by
    have h := Tryd.strings_HasPrefix s ⟨#[45]⟩ w
    rw [show ((⟨#[45]⟩ : ByteArray).data.toList) = [45] from rfl, negS_prefix, hng] at h
    exact h)
  have HI := Lib.hid (fun W (hW : Below w.heap.size w W) n h0 h1 => itoa_any (hP.below hW) n h0 h1)
  have hsg : sgnS s.data.toList = 1 := by unfold sgnS; rw [hng]; rfl
  have HST := Lib.hid (show NJ w s 0 0 w from by
    have h := nj_start (w := w) (W := w) (s := s) (Below.refl _ _)
    rw [hng] at h
    exact h)
  have HEND := Lib.hid (fun acc W (h : NJ w s acc s.size W) => show numN s.data.toList = acc ∧ numB s.data.toList = decide (Lib.itoa acc = s.data.toList) from by
    have h2 := nj_end h hs
    rw [hsg] at h2
    rw [show (acc : Int) = 1 * acc by omega]
    exact h2)
  have HBAD := Lib.hid (fun acc i W (h : NJ w s acc i W) hi hd => nj_bad h hi hd)
  obtain ⟨nv, hnv⟩ : ∃ v, numN s.data.toList = v := ⟨_, rfl⟩
  obtain ⟨nb, hnb⟩ : ∃ v, numB s.data.toList = v := ⟨_, rfl⟩
  rw [hnv, hnb] at HEND HBAD ⊢
  clear hP hng hsg hnv hnb
  go_enter Tryd.func69, Tryd.ntmps69
  go_wp2
  refine wp_jumps2 0 (fun a' W => ∃ (acc : Int) (i : Nat) (u7 u8 u9 u10 u11 u12 u13 u14 u15 u16 u17 u18 u19 u20 u21 u22 u23 u24 u25 u26 u27 u28 u29 u30 u31 u32 u33 u34 u35 u36 u37 u38 u39 u40 u41 u42 u43 u44 : Value), a' = { tmps := #[.string s, undef, .int .i64 0, .bool false, .int .i64 acc, .int .i64 (i : Int), .int .i64 1, u7, u8, u9, u10, u11, u12, u13, u14, u15, u16, u17, u18, u19, u20, u21, u22, u23, u24, u25, u26, u27, u28, u29, u30, u31, u32, u33, u34, u35, u36, u37, u38, u39, u40, u41, u42, u43, u44], defers := [] } ∧ NJ w s acc i W) (fun a' _ => s.size - (intOf (a'.tmps.getD 5 undef)).toNat) rfl (fun hlab => ?_) ?_
  · go_wp2_with (refine HH.out.mono ?_; rintro e w1 ⟨rfl, rfl⟩)
    go_step3
    rename_i hK
    exact hK _ _ (hlab _ _ ⟨0, 0, _, _, _, _, _, _, _, _, _, _, _, _, _, _, _, _, _, _, _, _, _, _, _, _, _, _, _, _, _, _, _, _, _, _, _, _, _, _, rfl, HST.out⟩)
  · rintro a' W ⟨acc, i, u7, u8, u9, u10, u11, u12, u13, u14, u15, u16, u17, u18, u19, u20, u21, u22, u23, u24, u25, u26, u27, u28, u29, u30, u31, u32, u33, u34, u35, u36, u37, u38, u39, u40, u41, u42, u43, u44, rfl, hJ⟩
    obtain ⟨ha0, ha1⟩ := nj_len hJ hs
    have hle := hJ.le
    have HJ := Lib.hid hJ
    clear hJ
    by_cases hend : i = s.size
    · have HJ2 := HJ.out
      rw [hend] at HJ2
      obtain ⟨e1, e2⟩ := HEND.out _ _ HJ2
      have HB2 := Lib.hid HJ2.b
      clear HJ HJ2 HBAD HEND HST
      have e0 := e1.symm
      subst e0
      obtain ⟨t, ht⟩ : ∃ t : ByteArray, (⟨(Lib.itoa acc).toArray⟩ : ByteArray) = t := ⟨_, rfl⟩
      have HI2 := Lib.hid (show Calls Tryd.prog 28 #[.int .i64 acc] _ fun e w' => e = .returned (.string t) ∧ Below _ _ w' from by rw [← ht]; exact HI.out _ HB2.out acc (by omega) (by omega))
      have HT := Lib.hid (show nb = true ↔ t = s from by
        rw [e2, decide_eq_true_eq, ← ht]
        exact ⟨fun h => bytes_eq h, fun h => by rw [← h]⟩)
      clear HI e1 e2 ht
      by_cases he : t = s
      · obtain rfl := HT.out.2 he
        have hb := seq_true he
        clear HT he
        go_wp2_with (refine HI2.out.mono ?_; rintro e W2 ⟨rfl, hb2⟩)
        simp only [Exit.jump]
        go_ret2
        exact ⟨rfl, bl_step HB2.out hb2⟩
      · obtain rfl : nb = false := by
          cases nb
          · rfl
          · exact absurd (HT.out.1 rfl) he
        have hb := seq_false he
        clear HT he
        go_wp2_with (refine HI2.out.mono ?_; rintro e W2 ⟨rfl, hb2⟩)
        simp only [Exit.jump]
        go_ret2
        exact ⟨rfl, bl_step HB2.out hb2⟩
    · have hlt : i < s.size := by have := HJ.out.le; omega
      have hlti : (i : Int) < (s.size : Int) := by omega
      have hne : ((i : Int) == (s.size : Int)) = false := by simp; omega
      clear HEND HI HST
      rcases (show (48 ≤ (s[i]'hlt).toNat ∧ (s[i]'hlt).toNat ≤ 57) ∨ (s[i]'hlt).toNat < 48 ∨ (48 ≤ (s[i]'hlt).toNat ∧ 57 < (s[i]'hlt).toNat) by omega) with ⟨h1, h2⟩ | h1 | ⟨h1, h2⟩
      · have j1 : (48 : Int) ≤ ((s[i]'hlt).toNat : Int) := by omega
        have j2 : ((s[i]'hlt).toNat : Int) ≤ 57 := by omega
        go_wp2
        go_step3
        refine ⟨rfl, ⟨_, i + 1, _, _, _, _, _, _, _, _, _, _, _, _, _, _, _, _, _, _, _, _, _, _, _, _, _, _, _, _, _, _, _, _, _, _, _, _, _, _, rfl, nj_step HJ.out hlt (isD_yes h1 h2)⟩, ?_⟩
        simp [intOf]
        omega
      · obtain ⟨rfl, rfl⟩ := HBAD.out _ _ _ HJ.out hlt (isD_no (.inl h1))
        have j1 : ((s[i]'hlt).toNat : Int) < 48 := by omega
        have HB2 := Lib.hid HJ.out.b
        clear HBAD HJ
        go_wp2
        simp only [Exit.jump]
        go_ret2
        exact ⟨rfl, HB2.out⟩
      · obtain ⟨rfl, rfl⟩ := HBAD.out _ _ _ HJ.out hlt (isD_no (.inr h2))
        have j1 : (48 : Int) ≤ ((s[i]'hlt).toNat : Int) := by omega
        have j2 : 57 < ((s[i]'hlt).toNat : Int) := by omega
        have HB2 := Lib.hid HJ.out.b
        clear HBAD HJ
        go_wp2
        simp only [Exit.jump]
        go_ret2
        exact ⟨rfl, HB2.out⟩

set_option maxRecDepth 100000 in
set_option maxHeartbeats 4000000 in
theorem number_neg {w : World} (hP : Pow w) (s : ByteArray) (hs : s.size ≤ 10) (hng : negS s.data.toList = true) : Calls Tryd.prog 69 #[.string s] w fun e w' => e = .returned (.tuple #[.int .i64 (numN s.data.toList), .bool (numB s.data.toList)]) ∧ Below w.heap.size w w' := by
  have hi10 : (s.size : Int) ≤ 10 := by omega
  have HH := Lib.hid (show Calls Tryd.prog 84 #[.string s, .string ⟨#[45]⟩] w fun e w' => e = .returned (.bool true) ∧ w' = w from by
    have h := Tryd.strings_HasPrefix s ⟨#[45]⟩ w
    rw [show ((⟨#[45]⟩ : ByteArray).data.toList) = [45] from rfl, negS_prefix, hng] at h
    exact h)
  have HI := Lib.hid (fun W (hW : Below w.heap.size w W) n h0 h1 => itoa_any (hP.below hW) n h0 h1)
  have hsg : sgnS s.data.toList = -1 := by unfold sgnS; rw [hng]; rfl
  have HST := Lib.hid (show NJ w s 0 1 w from by
    have h := nj_start (w := w) (W := w) (s := s) (Below.refl _ _)
    rw [hng] at h
    exact h)
  have HEND := Lib.hid (fun acc W (h : NJ w s acc s.size W) => show numN s.data.toList = (-acc) ∧ numB s.data.toList = decide (Lib.itoa (-acc) = s.data.toList) from by
    have h2 := nj_end h hs
    rw [hsg] at h2
    rw [show ((-acc) : Int) = -1 * acc by omega]
    exact h2)
  have HBAD := Lib.hid (fun acc i W (h : NJ w s acc i W) hi hd => nj_bad h hi hd)
  obtain ⟨nv, hnv⟩ : ∃ v, numN s.data.toList = v := ⟨_, rfl⟩
  obtain ⟨nb, hnb⟩ : ∃ v, numB s.data.toList = v := ⟨_, rfl⟩
  rw [hnv, hnb] at HEND HBAD ⊢
  clear hP hng hsg hnv hnb
  go_enter Tryd.func69, Tryd.ntmps69
  go_wp2
  refine wp_jumps2 0 (fun a' W => ∃ (acc : Int) (i : Nat) (u7 u8 u9 u10 u11 u12 u13 u14 u15 u16 u17 u18 u19 u20 u21 u22 u23 u24 u25 u26 u27 u28 u29 u30 u31 u32 u33 u34 u35 u36 u37 u38 u39 u40 u41 u42 u43 u44 : Value), a' = { tmps := #[.string s, undef, .int .i64 0, .bool false, .int .i64 acc, .int .i64 (i : Int), .int .i64 (-1), u7, u8, u9, u10, u11, u12, u13, u14, u15, u16, u17, u18, u19, u20, u21, u22, u23, u24, u25, u26, u27, u28, u29, u30, u31, u32, u33, u34, u35, u36, u37, u38, u39, u40, u41, u42, u43, u44], defers := [] } ∧ NJ w s acc i W) (fun a' _ => s.size - (intOf (a'.tmps.getD 5 undef)).toNat) rfl (fun hlab => ?_) ?_
  · go_wp2_with (refine HH.out.mono ?_; rintro e w1 ⟨rfl, rfl⟩)
    go_step3
    rename_i hK
    exact hK _ _ (hlab _ _ ⟨0, 1, _, _, _, _, _, _, _, _, _, _, _, _, _, _, _, _, _, _, _, _, _, _, _, _, _, _, _, _, _, _, _, _, _, _, _, _, _, _, rfl, HST.out⟩)
  · rintro a' W ⟨acc, i, u7, u8, u9, u10, u11, u12, u13, u14, u15, u16, u17, u18, u19, u20, u21, u22, u23, u24, u25, u26, u27, u28, u29, u30, u31, u32, u33, u34, u35, u36, u37, u38, u39, u40, u41, u42, u43, u44, rfl, hJ⟩
    obtain ⟨ha0, ha1⟩ := nj_len hJ hs
    have hle := hJ.le
    have HJ := Lib.hid hJ
    clear hJ
    by_cases hend : i = s.size
    · have HJ2 := HJ.out
      rw [hend] at HJ2
      obtain ⟨e1, e2⟩ := HEND.out _ _ HJ2
      have HB2 := Lib.hid HJ2.b
      clear HJ HJ2 HBAD HEND HST
      have e0 := e1.symm
      subst e0
      obtain ⟨t, ht⟩ : ∃ t : ByteArray, (⟨(Lib.itoa (-acc)).toArray⟩ : ByteArray) = t := ⟨_, rfl⟩
      have HI2 := Lib.hid (show Calls Tryd.prog 28 #[.int .i64 (-acc)] _ fun e w' => e = .returned (.string t) ∧ Below _ _ w' from by rw [← ht]; exact HI.out _ HB2.out (-acc) (by omega) (by omega))
      have HT := Lib.hid (show nb = true ↔ t = s from by
        rw [e2, decide_eq_true_eq, ← ht]
        exact ⟨fun h => bytes_eq h, fun h => by rw [← h]⟩)
      clear HI e1 e2 ht
      by_cases he : t = s
      · obtain rfl := HT.out.2 he
        have hb := seq_true he
        clear HT he
        go_wp2_with (refine HI2.out.mono ?_; rintro e W2 ⟨rfl, hb2⟩)
        simp only [Exit.jump]
        go_ret2
        exact ⟨rfl, bl_step HB2.out hb2⟩
      · obtain rfl : nb = false := by
          cases nb
          · rfl
          · exact absurd (HT.out.1 rfl) he
        have hb := seq_false he
        clear HT he
        go_wp2_with (refine HI2.out.mono ?_; rintro e W2 ⟨rfl, hb2⟩)
        simp only [Exit.jump]
        go_ret2
        exact ⟨rfl, bl_step HB2.out hb2⟩
    · have hlt : i < s.size := by have := HJ.out.le; omega
      have hlti : (i : Int) < (s.size : Int) := by omega
      have hne : ((i : Int) == (s.size : Int)) = false := by simp; omega
      clear HEND HI HST
      rcases (show (48 ≤ (s[i]'hlt).toNat ∧ (s[i]'hlt).toNat ≤ 57) ∨ (s[i]'hlt).toNat < 48 ∨ (48 ≤ (s[i]'hlt).toNat ∧ 57 < (s[i]'hlt).toNat) by omega) with ⟨h1, h2⟩ | h1 | ⟨h1, h2⟩
      · have j1 : (48 : Int) ≤ ((s[i]'hlt).toNat : Int) := by omega
        have j2 : ((s[i]'hlt).toNat : Int) ≤ 57 := by omega
        go_wp2
        go_step3
        refine ⟨rfl, ⟨_, i + 1, _, _, _, _, _, _, _, _, _, _, _, _, _, _, _, _, _, _, _, _, _, _, _, _, _, _, _, _, _, _, _, _, _, _, _, _, _, _, rfl, nj_step HJ.out hlt (isD_yes h1 h2)⟩, ?_⟩
        simp [intOf]
        omega
      · obtain ⟨rfl, rfl⟩ := HBAD.out _ _ _ HJ.out hlt (isD_no (.inl h1))
        have j1 : ((s[i]'hlt).toNat : Int) < 48 := by omega
        have HB2 := Lib.hid HJ.out.b
        clear HBAD HJ
        go_wp2
        simp only [Exit.jump]
        go_ret2
        exact ⟨rfl, HB2.out⟩
      · obtain ⟨rfl, rfl⟩ := HBAD.out _ _ _ HJ.out hlt (isD_no (.inr h2))
        have j1 : (48 : Int) ≤ ((s[i]'hlt).toNat : Int) := by omega
        have j2 : 57 < ((s[i]'hlt).toNat : Int) := by omega
        have HB2 := Lib.hid HJ.out.b
        clear HBAD HJ
        go_wp2
        simp only [Exit.jump]
        go_ret2
        exact ⟨rfl, HB2.out⟩

theorem number_any {w : World} (hP : Pow w) (s : ByteArray) : Calls Tryd.prog 69 #[.string s] w fun e w' => e = .returned (.tuple #[.int .i64 (numN s.data.toList), .bool (numB s.data.toList)]) ∧ Below w.heap.size w w' := by
  by_cases hl : 10 < s.size
  · exact number_long w s hl
  · cases hn : negS s.data.toList
    · exact number_plain hP s (by omega) hn
    · exact number_neg hP s (by omega) hn
end Go.Proofs.YtoglmemmdolbmaaDoor.I
