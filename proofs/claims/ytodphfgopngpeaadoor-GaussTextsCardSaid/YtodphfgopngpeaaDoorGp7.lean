/-
  The document's reading of a number's digits, walked. No condition but the text's length.
-/
import Derived.Deep.LoopGhost
import Derived.Test.YtodphfgopngpeaaDoorGp6
namespace Go.Proofs.YtodphfgopngpeaaDoor
open Go.RowKit
set_option linter.unusedVariables false
set_option linter.unusedSimpArgs false
attribute [local irreducible] floatOfInt wz

def isD (b : UInt8) : Bool := decide (48 ≤ b.toNat ∧ b.toNat ≤ 57)
/-- Digits read on: a number, and how many. -/
def numA : Nat → Nat → List UInt8 → Nat × Nat
  | acc, 0, _ => (acc, 0)
  | acc, _ + 1, [] => (acc, 0)
  | acc, f + 1, c :: r => if isD c then ((numA (acc * 10 + (c.toNat - 48)) f r).1, (numA (acc * 10 + (c.toNat - 48)) f r).2 + 1) else (acc, 0)
theorem numA_stop {acc f : Nat} {l : List UInt8} (h : f = 0 ∨ l = [] ∨ ∃ c r, l = c :: r ∧ isD c = false) : numA acc f l = (acc, 0) := by
  rcases h with rfl | rfl | ⟨c, r, rfl, hc⟩
  · cases l <;> rfl
  · cases f <;> rfl
  · cases f with
    | zero => rfl
    | succ f => rw [numA, if_neg (by rw [hc]; decide)]
theorem numA_go {acc f : Nat} {c : UInt8} {r : List UInt8} (hc : isD c = true) : numA acc (f + 1) (c :: r) = ((numA (acc * 10 + (c.toNat - 48)) f r).1, (numA (acc * 10 + (c.toNat - 48)) f r).2 + 1) := by rw [numA, if_pos hc]
/-- What the document reads from a place on: a number, and where it ends; -1: none. -/
def numR (l : List UInt8) (at' : Nat) : Int × Int :=
  if (numA 0 7 (l.drop at')).2 = 0 ∨ (1 < (numA 0 7 (l.drop at')).2 ∧ l[at']? = some 48) then (0, -1) else (((numA 0 7 (l.drop at')).1 : Int), (at' : Int) + ((numA 0 7 (l.drop at')).2 : Int))
/-- k digits are read, and come to v. -/
def ReadTo (l : List UInt8) (at' k v : Nat) : Prop := k ≤ 7 ∧ at' + k ≤ l.length ∧ v < 10 ^ k ∧ numA 0 7 (l.drop at') = ((numA v (7 - k) (l.drop (at' + k))).1, (numA v (7 - k) (l.drop (at' + k))).2 + k)
theorem readTo_zero {l : List UInt8} {at' : Nat} (h : at' ≤ l.length) : ReadTo l at' 0 0 := ⟨by omega, by omega, by decide, rfl⟩
theorem readTo_succ {l : List UInt8} {at' k v : Nat} (h : ReadTo l at' k v) {c : UInt8} (hc : l[at' + k]? = some c) (hd : isD c = true) (hk : k < 7) : ReadTo l at' (k + 1) (v * 10 + (c.toNat - 48)) := by
  obtain ⟨h1, h2, h3, h4⟩ := h
  have hlt : at' + k < l.length := (List.getElem?_eq_some_iff.1 hc).1
  have hdr : l.drop (at' + k) = c :: l.drop (at' + k + 1) := by
    rw [List.drop_eq_getElem_cons hlt, (List.getElem?_eq_some_iff.1 hc).2]
  have hdd : 48 ≤ c.toNat ∧ c.toNat ≤ 57 := by unfold isD at hd; simpa using hd
  refine ⟨by omega, by omega, ?_, ?_⟩
  · rw [Nat.pow_succ]; omega
  · rw [h4, hdr, show 7 - k = (7 - (k + 1)) + 1 by omega, numA_go hd]
    have e1 : at' + k + 1 = at' + (k + 1) := by omega
    rw [e1]
    simp only
    congr 1
    omega
theorem readTo_end {l : List UInt8} {at' k v : Nat} (h : ReadTo l at' k v) (he : k = 7 ∨ at' + k = l.length ∨ ∃ c, l[at' + k]? = some c ∧ isD c = false) : numA 0 7 (l.drop at') = (v, k) := by
  obtain ⟨h1, h2, h3, h4⟩ := h
  rw [h4, numA_stop (acc := v)]
  · rw [Nat.zero_add]
  · rcases he with rfl | he | ⟨c, hc, hd⟩
    · exact .inl rfl
    · exact .inr (.inl (List.drop_eq_nil_of_le (by omega)))
    · have hlt : at' + k < l.length := (List.getElem?_eq_some_iff.1 hc).1
      exact .inr (.inr ⟨c, _, by rw [List.drop_eq_getElem_cons hlt, (List.getElem?_eq_some_iff.1 hc).2], hd⟩)
theorem numR_bounds (l : List UInt8) (at' : Nat) (h : at' ≤ l.length) : 0 ≤ (numR l at').1 ∧ (numR l at').1 ≤ 10000000 ∧ ((numR l at').2 = -1 ∨ ((at' : Int) < (numR l at').2 ∧ (numR l at').2 ≤ l.length)) := by
  have hx : ∀ (f : Nat) (m : List UInt8) (acc : Nat), (numA acc f m).1 ≤ (acc + 1) * 10 ^ f ∧ (numA acc f m).2 ≤ m.length := by
    intro f
    induction f with
    | zero => intro m acc; rw [numA_stop (.inl rfl)]; simp
    | succ f ih =>
      intro m acc
      cases m with
      | nil => rw [numA_stop (.inr (.inl rfl))]; simp; exact Nat.le_trans (Nat.le_succ _) (Nat.le_mul_of_pos_right _ (Nat.pow_pos (by decide)))
      | cons c r =>
        cases hd : isD c with
        | false =>
          rw [numA_stop (.inr (.inr ⟨c, r, rfl, hd⟩))]
          exact ⟨Nat.le_trans (Nat.le_succ _) (Nat.le_mul_of_pos_right _ (Nat.pow_pos (by decide))), Nat.zero_le _⟩
        | true =>
          rw [numA_go hd]
          have hdd : 48 ≤ c.toNat ∧ c.toNat ≤ 57 := by unfold isD at hd; simpa using hd
          have hi := ih r (acc * 10 + (c.toNat - 48))
          refine ⟨Nat.le_trans hi.1 ?_, by simp only [List.length_cons]; omega⟩
          rw [Nat.pow_succ, Nat.mul_comm (10 ^ f) 10, ← Nat.mul_assoc]
          exact Nat.mul_le_mul_right _ (by omega)
  obtain ⟨h1, h2⟩ := hx 7 (l.drop at') 0
  rw [List.length_drop] at h2
  unfold numR
  split
  · exact ⟨by decide, by decide, .inl rfl⟩
  · rename_i hn
    refine ⟨by simp only; omega, by simp only; omega, .inr ⟨?_, ?_⟩⟩
    · simp only; omega
    · simp only; omega
theorem ret_two {r : Int × Int} {a b : Int} (h : r = (a, b)) : Ending.returned (.tuple #[.int .i64 a, .int .i64 b]) = .returned (.tuple #[.int .i64 r.1, .int .i64 r.2]) := by rw [h]
set_option maxRecDepth 100000 in
set_option maxHeartbeats 8000000 in
theorem num_any {w : World} (s : ByteArray) (hs : s.size ≤ 1000000) (at' : Nat) (hat : at' ≤ s.size) : Calls Tryd.prog 31 #[.string s, .int .i64 (at' : Int)] w fun e w' => e = .returned (.tuple #[.int .i64 (numR s.data.toList at').1, .int .i64 (numR s.data.toList at').2]) ∧ w' = w := by
  have hL : s.data.toList.length = s.size := by rw [Array.length_toList]; rfl
  have HL := Lib.hid hL
  have HZ := Lib.hid (readTo_zero (l := s.data.toList) (at' := at') (by omega))
  have hai : (at' : Int) ≤ (s.size : Int) := by omega
  have hsi : (s.size : Int) ≤ 1000000 := by omega
  have ha0 : (0 : Int) ≤ (at' : Int) := by omega
  clear hL
  go_enter Tryd.func31, Tryd.ntmps31
  go_wp2
  go_loopg [6, 7] 8 (fun g u i wx => ∃ j k v : Nat, k + g = 8 ∧ u = .int .i64 (v : Int) ∧ i = .int .i64 (j : Int) ∧ w = wx ∧ j = at' + k ∧ ReadTo s.data.toList at' k v)
  case atStart => exact ⟨at', 0, 0, rfl, rfl, rfl, rfl, rfl, HZ.out⟩
  case round =>
    obtain ⟨j, k, v, hk, rfl, rfl, rfl, hj, hR⟩ := hrel
    have HR := Lib.hid hR
    have hv : v < 10 ^ k := hR.2.2.1
    have hk7 : k ≤ 7 := hR.1
    have hkl : at' + k ≤ s.size := by rw [← HL.out]; exact hR.2.1
    clear hR
    have hvb : (v : Int) < 10000000 := by
      have : 10 ^ k ≤ 10 ^ 7 := Nat.pow_le_pow_right (by decide) hk7
      omega
    have hji : (j : Int) ≤ (s.size : Int) := by omega
    have hj0 : (0 : Int) ≤ (j : Int) := by omega
    have hja : (at' : Int) ≤ (j : Int) := by omega
    have hv0 : (0 : Int) ≤ (v : Int) := by omega
    have HJ := Lib.hid hj
    clear hv hj
    by_cases hgo : k < 7 ∧ ∃ c, s.data.toList[j]? = some c ∧ isD c = true
    · obtain ⟨hk6, c, hc, hd⟩ := hgo
      have hjl : j < s.size := by rw [← HL.out]; exact (List.getElem?_eq_some_iff.1 hc).1
      have hcx : s[j]'hjl = c := by
        have := Lib.data_getElem? s j hjl
        rw [hc] at this
        exact (Option.some.inj this).symm
      have hdd : 48 ≤ c.toNat ∧ c.toNat ≤ 57 := by unfold isD at hd; simpa using hd
      have HN := Lib.hid (readTo_succ HR.out (by rw [← HJ.out]; exact hc) hd hk6)
      have h48 : (48 : Int) ≤ (c.toNat : Int) := by omega
      have h57 : (c.toNat : Int) ≤ 57 := by omega
      have hjl2 : (j : Int) < (s.size : Int) := by omega
      have hjk : (j : Int) - (at' : Int) < 7 := by have := HJ.out; omega
      obtain ⟨g, rfl⟩ : ∃ g, gk = g + 1 := ⟨gk - 1, by omega⟩
      have HDD := Lib.hid hdd
      have HKG := Lib.hid hk
      clear hd hc hdd hk
      go_wp2
      go_roundg g
      case measure => omega
      case rel => exact ⟨j + 1, k + 1, v * 10 + (c.toNat - 48), by have := HKG.out; omega, by have := HDD.out; go_num, by go_num, rfl, by have := HJ.out; omega, HN.out⟩
    · have hend : k = 7 ∨ j = s.size ∨ ∃ c, s.data.toList[j]? = some c ∧ isD c = false := by
        by_cases h7 : k = 7
        · exact .inl h7
        by_cases hz : j = s.size
        · exact .inr (.inl hz)
        · have hjl : j < s.data.toList.length := by have := HL.out; omega
          refine .inr (.inr ⟨_, List.getElem?_eq_getElem hjl, ?_⟩)
          rw [Bool.eq_false_iff]
          exact fun hd => hgo ⟨by omega, _, List.getElem?_eq_getElem hjl, hd⟩
      clear hgo
      have HE := Lib.hid (readTo_end HR.out (by rw [← HJ.out, HL.out]; exact hend))
      have hres : (k = 0 ∧ numR s.data.toList at' = (0, -1)) ∨ (k = 1 ∧ numR s.data.toList at' = ((v : Int), (j : Int))) ∨ (2 ≤ k ∧ ∃ y : UInt8, ∃ h : at' < s.size, s[at']'h = y ∧ ((y.toNat = 48 ∧ numR s.data.toList at' = (0, -1)) ∨ (y.toNat ≠ 48 ∧ numR s.data.toList at' = ((v : Int), (j : Int))))) := by
        unfold numR
        rw [HE.out]
        simp only
        have hjj := HJ.out
        rcases (show k = 0 ∨ k = 1 ∨ 2 ≤ k by omega) with h | h | h
        · exact .inl ⟨h, by rw [if_pos (.inl h)]⟩
        · exact .inr (.inl ⟨h, by rw [if_neg (by omega), hjj]; simp⟩)
        · have hlt : at' < s.size := by omega
          refine .inr (.inr ⟨h, s[at']'hlt, hlt, rfl, ?_⟩)
          have hge := Lib.data_getElem? s at' hlt
          by_cases hy : s[at']'hlt = 48
          · exact .inl ⟨by rw [hy]; rfl, by rw [if_pos (.inr ⟨by omega, by rw [hge, hy]⟩)]⟩
          · refine .inr ⟨fun e => hy (UInt8.toNat_inj.1 e), ?_⟩
            rw [if_neg]
            · rw [hjj]; simp
            · rintro (h0 | ⟨_, h1⟩)
              · omega
              · rw [hge] at h1
                exact hy (Option.some.inj h1)
      have HEND := Lib.hid hend
      have HKG := Lib.hid hk
      clear hend hk
      have hstop : (s.size : Int) ≤ (j : Int) ∨ ∃ (c : UInt8) (h : j < s.size), s[j]'h = c ∧ (((c.toNat : Int) < 48) ∨ (57 < (c.toNat : Int)) ∨ ((48 : Int) ≤ (c.toNat : Int) ∧ (c.toNat : Int) ≤ 57 ∧ 7 ≤ (j : Int) - (at' : Int))) := by
        by_cases hz : j < s.size
        · refine .inr ⟨s[j]'hz, hz, rfl, ?_⟩
          rcases HEND.out with h | h | ⟨c, hc, hd⟩
          · have := HJ.out; omega
          · omega
          · have he := Lib.data_getElem? s j hz
            rw [hc] at he
            have he := Option.some.inj he
            have hd : ¬ (48 ≤ c.toNat ∧ c.toNat ≤ 57) := by unfold isD at hd; simpa using hd
            rw [← he]
            omega
        · exact .inl (by omega)
      have hjd : (j : Int) - (at' : Int) = (k : Int) := by have := HJ.out; omega
      have HJD := Lib.hid hjd
      have HRES := Lib.hid hres
      have HSTOP := Lib.hid hstop
      clear hjd hres hstop
      clear hk7 hkl
      rcases HSTOP.out with hnj | ⟨c, hjl, hcx, hc⟩
      · have hnj2 : ¬ (j : Int) < (s.size : Int) := by omega
        clear hnj
        rcases HRES.out with ⟨hk0, hr⟩ | ⟨hk1, hr⟩ | ⟨hk2, y, hy0, hy, hr⟩
        · have HR1 := Lib.hid hr
          obtain rfl : j = at' := by have := HJD.out; omega
          clear hr hk0
          go_wp2
          all_goals (go_ret2; exact ⟨ret_two HR1.out, rfl⟩)
        · have HR1 := Lib.hid hr
          have hne : ((j : Int) == (at' : Int)) = false := beq_eq_false_iff_ne.2 (by have := HJD.out; omega)
          have hn1 : ¬ (1 : Int) < (j : Int) - (at' : Int) := by have := HJD.out; omega
          clear hr hk1
          go_wp2
          all_goals (go_ret2; exact ⟨ret_two HR1.out, rfl⟩)
        · have hne : ((j : Int) == (at' : Int)) = false := beq_eq_false_iff_ne.2 (by have := HJD.out; omega)
          have hn1 : (1 : Int) < (j : Int) - (at' : Int) := by have := HJD.out; omega
          have hyi : (at' : Int) < (s.size : Int) := by omega
          clear hk2
          rcases hr with ⟨hy48, hr⟩ | ⟨hy48, hr⟩
          · have HR1 := Lib.hid hr
            have hyb : ((y.toNat : Int) == 48) = true := beq_iff_eq.2 (by omega)
            clear hr hy48
            go_wp2
            all_goals (go_ret2; exact ⟨ret_two HR1.out, rfl⟩)
          · have HR1 := Lib.hid hr
            have hyb : ((y.toNat : Int) == 48) = false := beq_eq_false_iff_ne.2 (by omega)
            clear hr hy48
            go_wp2
            all_goals (go_ret2; exact ⟨ret_two HR1.out, rfl⟩)
      · have hjl2 : (j : Int) < (s.size : Int) := by omega
        rcases hc with hc | hc | hc
        · have hc2 : ¬ (48 : Int) ≤ (c.toNat : Int) := by omega
          clear hc
          rcases HRES.out with ⟨hk0, hr⟩ | ⟨hk1, hr⟩ | ⟨hk2, y, hy0, hy, hr⟩
          · have HR1 := Lib.hid hr
            obtain rfl : j = at' := by have := HJD.out; omega
            clear hr hk0
            go_wp2
            all_goals (go_ret2; exact ⟨ret_two HR1.out, rfl⟩)
          · have HR1 := Lib.hid hr
            have hne : ((j : Int) == (at' : Int)) = false := beq_eq_false_iff_ne.2 (by have := HJD.out; omega)
            have hn1 : ¬ (1 : Int) < (j : Int) - (at' : Int) := by have := HJD.out; omega
            clear hr hk1
            go_wp2
            all_goals (go_ret2; exact ⟨ret_two HR1.out, rfl⟩)
          · have hne : ((j : Int) == (at' : Int)) = false := beq_eq_false_iff_ne.2 (by have := HJD.out; omega)
            have hn1 : (1 : Int) < (j : Int) - (at' : Int) := by have := HJD.out; omega
            have hyi : (at' : Int) < (s.size : Int) := by omega
            clear hk2
            rcases hr with ⟨hy48, hr⟩ | ⟨hy48, hr⟩
            · have HR1 := Lib.hid hr
              have hyb : ((y.toNat : Int) == 48) = true := beq_iff_eq.2 (by omega)
              clear hr hy48
              go_wp2
              all_goals (go_ret2; exact ⟨ret_two HR1.out, rfl⟩)
            · have HR1 := Lib.hid hr
              have hyb : ((y.toNat : Int) == 48) = false := beq_eq_false_iff_ne.2 (by omega)
              clear hr hy48
              go_wp2
              all_goals (go_ret2; exact ⟨ret_two HR1.out, rfl⟩)
        · have hc2 : (48 : Int) ≤ (c.toNat : Int) := by omega
          have hc3 : ¬ (c.toNat : Int) ≤ 57 := by omega
          clear hc
          rcases HRES.out with ⟨hk0, hr⟩ | ⟨hk1, hr⟩ | ⟨hk2, y, hy0, hy, hr⟩
          · have HR1 := Lib.hid hr
            obtain rfl : j = at' := by have := HJD.out; omega
            clear hr hk0
            go_wp2
            all_goals (go_ret2; exact ⟨ret_two HR1.out, rfl⟩)
          · have HR1 := Lib.hid hr
            have hne : ((j : Int) == (at' : Int)) = false := beq_eq_false_iff_ne.2 (by have := HJD.out; omega)
            have hn1 : ¬ (1 : Int) < (j : Int) - (at' : Int) := by have := HJD.out; omega
            clear hr hk1
            go_wp2
            all_goals (go_ret2; exact ⟨ret_two HR1.out, rfl⟩)
          · have hne : ((j : Int) == (at' : Int)) = false := beq_eq_false_iff_ne.2 (by have := HJD.out; omega)
            have hn1 : (1 : Int) < (j : Int) - (at' : Int) := by have := HJD.out; omega
            have hyi : (at' : Int) < (s.size : Int) := by omega
            clear hk2
            rcases hr with ⟨hy48, hr⟩ | ⟨hy48, hr⟩
            · have HR1 := Lib.hid hr
              have hyb : ((y.toNat : Int) == 48) = true := beq_iff_eq.2 (by omega)
              clear hr hy48
              go_wp2
              all_goals (go_ret2; exact ⟨ret_two HR1.out, rfl⟩)
            · have HR1 := Lib.hid hr
              have hyb : ((y.toNat : Int) == 48) = false := beq_eq_false_iff_ne.2 (by omega)
              clear hr hy48
              go_wp2
              all_goals (go_ret2; exact ⟨ret_two HR1.out, rfl⟩)
        · obtain ⟨hc3, hc4, hc⟩ := hc
          have hc2 : ¬ (j : Int) - (at' : Int) < 7 := by omega
          clear hc
          rcases HRES.out with ⟨hk0, hr⟩ | ⟨hk1, hr⟩ | ⟨hk2, y, hy0, hy, hr⟩
          · exfalso; have := HJD.out; omega
          · have HR1 := Lib.hid hr
            have hne : ((j : Int) == (at' : Int)) = false := beq_eq_false_iff_ne.2 (by have := HJD.out; omega)
            have hn1 : ¬ (1 : Int) < (j : Int) - (at' : Int) := by have := HJD.out; omega
            clear hr hk1
            go_wp2
            all_goals (go_ret2; exact ⟨ret_two HR1.out, rfl⟩)
          · have hne : ((j : Int) == (at' : Int)) = false := beq_eq_false_iff_ne.2 (by have := HJD.out; omega)
            have hn1 : (1 : Int) < (j : Int) - (at' : Int) := by have := HJD.out; omega
            have hyi : (at' : Int) < (s.size : Int) := by omega
            clear hk2
            rcases hr with ⟨hy48, hr⟩ | ⟨hy48, hr⟩
            · have HR1 := Lib.hid hr
              have hyb : ((y.toNat : Int) == 48) = true := beq_iff_eq.2 (by omega)
              clear hr hy48
              go_wp2
              all_goals (go_ret2; exact ⟨ret_two HR1.out, rfl⟩)
            · have HR1 := Lib.hid hr
              have hyb : ((y.toNat : Int) == 48) = false := beq_eq_false_iff_ne.2 (by omega)
              clear hr hy48
              go_wp2
              all_goals (go_ret2; exact ⟨ret_two HR1.out, rfl⟩)
end Go.Proofs.YtodphfgopngpeaaDoor
