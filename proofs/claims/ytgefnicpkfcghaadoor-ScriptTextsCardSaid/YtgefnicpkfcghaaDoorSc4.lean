/-
  script.named: is a text a name? Every text, broken UTF-8 too. No condition.
-/
import Derived.Lib.DecodeN
import Derived.Shelf.GgClosure.StringsRunes
import Derived.Test.YtgefnicpkfcghaaDoorIter
namespace Go.Proofs.YtgefnicpkfcghaaDoor
open Go.RowKit Go.Shelf
set_option linter.unusedVariables false
set_option linter.unusedSimpArgs false

def okB (b : Nat) : Bool := (decide (97 ≤ b) && decide (b ≤ 122)) || (decide (48 ≤ b) && decide (b ≤ 57))
def nameB (l : List UInt8) : Bool := decide (1 ≤ l.length) && decide (l.length ≤ 16) && l.all (fun c => okB c.toNat)

theorem bad_any {w : World} (r : Nat) :
    Calls Tryd.prog 56 #[.int .i32 (r : Int)] w fun e w' => e = .returned (.bool (!okB r)) ∧ Below w.heap.size w w' := by
  have hc : r < 48 ∨ (48 ≤ r ∧ r ≤ 57) ∨ (57 < r ∧ r < 97) ∨ (97 ≤ r ∧ r ≤ 122) ∨ 122 < r := by omega
  rcases hc with h | ⟨h, h'⟩ | ⟨h, h'⟩ | ⟨h, h'⟩ | h
  · have e : okB r = false := by unfold okB; simp; omega
    have a1 : (r : Int) < 97 := by omega
    have a2 : ¬ (122 : Int) < (r : Int) := by omega
    have a3 : (r : Int) < 48 := by omega
    have a4 : ¬ (57 : Int) < (r : Int) := by omega
    rw [e]
    clear e h
    go_enter Tryd.func56, Tryd.ntmps56
    go_wp2_with (go_quiet (fail))
    go_ret
    exact ⟨rfl, by first | exact belowN (Below.refl _ _) _ | exact Below.refl _ _⟩
  · have e : okB r = true := by unfold okB; simp; omega
    have a1 : (r : Int) < 97 := by omega
    have a2 : ¬ (122 : Int) < (r : Int) := by omega
    have a3 : ¬ (r : Int) < 48 := by omega
    have a4 : ¬ (57 : Int) < (r : Int) := by omega
    rw [e]
    clear e h h'
    go_enter Tryd.func56, Tryd.ntmps56
    go_wp2_with (go_quiet (fail))
    go_ret
    exact ⟨rfl, by first | exact belowN (Below.refl _ _) _ | exact Below.refl _ _⟩
  · have e : okB r = false := by unfold okB; simp; omega
    have a1 : (r : Int) < 97 := by omega
    have a2 : ¬ (122 : Int) < (r : Int) := by omega
    have a3 : ¬ (r : Int) < 48 := by omega
    have a4 : (57 : Int) < (r : Int) := by omega
    rw [e]
    clear e h h'
    go_enter Tryd.func56, Tryd.ntmps56
    go_wp2_with (go_quiet (fail))
    go_ret
    exact ⟨rfl, by first | exact belowN (Below.refl _ _) _ | exact Below.refl _ _⟩
  · have e : okB r = true := by unfold okB; simp; omega
    have a1 : ¬ (r : Int) < 97 := by omega
    have a2 : ¬ (122 : Int) < (r : Int) := by omega
    have a3 : ¬ (r : Int) < 48 := by omega
    have a4 : (57 : Int) < (r : Int) := by omega
    rw [e]
    clear e h h'
    go_enter Tryd.func56, Tryd.ntmps56
    go_wp2_with (go_quiet (fail))
    go_ret
    exact ⟨rfl, by first | exact belowN (Below.refl _ _) _ | exact Below.refl _ _⟩
  · have e : okB r = false := by unfold okB; simp; omega
    have a1 : ¬ (r : Int) < 97 := by omega
    have a2 : (122 : Int) < (r : Int) := by omega
    have a3 : ¬ (r : Int) < 48 := by omega
    have a4 : (57 : Int) < (r : Int) := by omega
    rw [e]
    clear e h
    go_enter Tryd.func56, Tryd.ntmps56
    go_wp2_with (go_quiet (fail))
    go_ret
    exact ⟨rfl, by first | exact belowN (Below.refl _ _) _ | exact Below.refl _ _⟩

theorem decode_low (s : ByteArray) (i : Nat) (h : (s.get! i).toNat < 128) : Utf8.decode s i = ((s.get! i).toNat, 1) := by
  rw [Lib.decode_at]
  unfold Lib.decodeN
  rw [if_pos h]
theorem decode_high (s : ByteArray) (i : Nat) (h : ¬ (s.get! i).toNat < 128) : 128 ≤ (Utf8.decode s i).1 := by
  rw [Lib.decode_at]
  unfold Lib.decodeN
  rw [if_neg h]
  repeat' split
  all_goals simp only
  all_goals omega
theorem okB_high {r : Nat} (h : 128 ≤ r) : okB r = false := by unfold okB; simp; omega
theorem get_list (s : ByteArray) (i : Nat) (h : i < s.size) : s.data.toList[i]? = some (s.get! i) := by
  obtain ⟨d⟩ := s
  show d.toList[i]? = some d[i]!
  have h' : i < d.size := h
  rw [getElem!_pos d i h', List.getElem?_eq_getElem (by rw [Array.length_toList]; exact h'), Array.getElem_toList]
theorem all_bytes (s : ByteArray) : (∀ j, j < s.size → okB (s.get! j).toNat = true) ↔ s.data.toList.all (fun c => okB c.toNat) = true := by
  rw [List.all_eq_true]
  constructor
  · intro h c hc
    obtain ⟨j, hj⟩ := List.getElem?_of_mem hc
    have hl := (List.getElem?_eq_some_iff.1 hj).1
    rw [Array.length_toList] at hl
    rw [get_list s j hl] at hj
    injection hj with hj
    rw [← hj]
    exact h j hl
  · intro h j hj
    exact h _ (List.mem_of_getElem? (get_list s j hj))

set_option maxHeartbeats 2000000 in
set_option maxRecDepth 1000000 in
theorem indexFunc_named {w : World} (s : ByteArray) :
    Calls Tryd.prog 92 #[.string s, .func (.func 56) #[] #[], .bool true] w fun e w' => ∃ v : Int, e = .returned (.int .i64 v) ∧ (0 ≤ v ↔ ¬ ∀ j, j < s.size → okB (s.get! j).toNat = true) ∧ Below w.heap.size w w' := by
  go_enter Tryd.func92, Tryd.ntmps92
  go_wp2
  go_loopg [] s.size (fun gf wx => ∃ pos : Nat, wx.heap[w.heap.size]? = some (.stringIter s pos) ∧ Below w.heap.size w wx ∧ (∀ j, j < pos → j < s.size → okB (s.get! j).toNat = true) ∧ s.size ≤ pos + gf)
  case atStart => exact ⟨0, World.iter_heap w s 0, (Below.refl _ w).alloc (Nat.le_refl _) _, fun j hj => by omega, by omega⟩
  case round =>
    obtain ⟨pos, hit, hbw, hgood, hfu⟩ := hrel
    have HGOOD := Lib.hid hgood
    clear hgood
    by_cases hps : pos < s.size
    · obtain ⟨g', rfl⟩ : ∃ g', gk = g' + 1 := ⟨gk - 1, by omega⟩
      have hnx : ∀ ty, (Instr.next (.pointer (some ⟨w.heap.size, 0, none⟩)) true ty).run Tryd.prog wr = _ := fun ty => Lib.run_next_any_at wr w.heap.size s pos ty hit hps
      obtain ⟨R, hR⟩ : ∃ R, (Utf8.decode s pos).1 = R := ⟨_, rfl⟩
      obtain ⟨K, hK⟩ : ∃ K, (Utf8.decode s pos).2 = K := ⟨_, rfl⟩
      have HB := Lib.hid (show okB R = okB (s.get! pos).toNat ∧ (okB R = true → K = 1) from by
        by_cases h : (s.get! pos).toNat < 128
        · have e := decode_low s pos h
          rw [← hR, ← hK, e]
          exact ⟨rfl, fun _ => rfl⟩
        · have e := decode_high s pos h
          rw [hR] at e
          rw [okB_high e, okB_high (by omega)]
          exact ⟨rfl, fun h => by cases h⟩)
      rw [hR, hK] at hnx
      have hit2 := Lib.iterAt_heap wr w.heap.size s pos (pos + K) hit
      have hbw2 := Lib.below_iterAt hbw (k := w.heap.size) (Nat.le_refl _) s (pos + K)
      obtain ⟨W, hWd⟩ : ∃ W, wr.iterAt w.heap.size s (pos + K) = W := ⟨_, rfl⟩
      rw [hWd] at hnx hit2 hbw2
      have cS := fun V => bad_any (w := V) R
      cases hb : okB R with
      | false =>
        rw [hb] at HB cS
        have HC := Lib.hid cS
        have HBW := Lib.hid hbw2
        clear cS hWd hb hR hK
        go_wp2_with (go_at_call 56; refine (HC.out _).mono ?_; rintro e W' ⟨rfl, q⟩)
        go_ret
        exact ⟨_, rfl, ⟨fun _ h => (by have h5 := h pos hps; rw [← HB.out.1] at h5; exact Bool.noConfusion h5), fun _ => Int.natCast_nonneg _⟩, by first | exact HBW.out.trans (q.mono HBW.out.size) | exact (HBW.out.drew).trans (q.mono HBW.out.size)⟩
      | true =>
        rw [hb] at HB cS
        have HC := Lib.hid cS
        have HBW := Lib.hid hbw2
        have HWI := Lib.hid hit2
        clear cS hWd hb hR hK
        go_wp2_with (go_at_call 56; refine (HC.out _).mono ?_; rintro e W' ⟨rfl, q⟩)
        go_roundg g'
        case measure => omega
        case rel =>
          have hK1 := HB.out.2 trivial
          refine ⟨pos + K, ?_, HBW.out.trans (q.mono HBW.out.size), ?_, by omega⟩
          · rw [q.block _ (lt_of_block HWI.out)]
            exact HWI.out
          · intro j hj hs
            by_cases h : j < pos
            · exact HGOOD.out j h hs
            · obtain rfl : j = pos := by omega
              exact HB.out.1.symm
    · have hnx : ∀ ty, (Instr.next (.pointer (some ⟨w.heap.size, 0, none⟩)) true ty).run Tryd.prog wr = _ := fun ty => Lib.run_next_end_at wr w.heap.size s pos ty hit hps
      go_wp2
      go_ret
      exact ⟨_, rfl, ⟨fun h => by omega, fun h => absurd (fun j hj => HGOOD.out j (by omega) hj) h⟩, hbw⟩

theorem named_any {w : World} (s : ByteArray) :
    Calls Tryd.prog 37 #[.string s] w fun e w' => e = .returned (.bool (nameB s.data.toList)) ∧ Below w.heap.size w w' := by
  have HI := Lib.hid (fun W => indexFunc_named (w := W) s)
  have hsz : s.data.toList.length = s.size := by rw [Array.length_toList]; rfl
  have HX := Lib.hid (fun W => show Calls Tryd.prog 75 #[.string s, .func (.func 56) #[] #[]] W fun e w' => ∃ v : Int, e = .returned (.int .i64 v) ∧ (0 ≤ v ↔ ¬ ∀ j, j < s.size → okB (s.get! j).toNat = true) ∧ Below W.heap.size W w' from by
    go_enter Tryd.func75, Tryd.ntmps75
    go_wp2_with fail
    refine (HI.out _).mono ?_
    rintro e w1 ⟨v, rfl, hv, hb⟩
    go_wp2_with fail
    go_ret
    exact ⟨v, rfl, hv, hb⟩)
  have HC := Lib.hid (fun W => show Calls Tryd.prog 57 #[.string s, .func (.func 56) #[] #[]] W fun e w' => e = .returned (.bool (!s.data.toList.all (fun c => okB c.toNat))) ∧ Below W.heap.size W w' from by
    go_enter Tryd.func57, Tryd.ntmps57
    go_wp2_with fail
    refine (HX.out _).mono ?_
    rintro e w1 ⟨v, rfl, hv, hb⟩
    have HV := Lib.hid hv
    clear hv
    go_wp2_with fail
    go_ret
    refine ⟨?_, hb⟩
    have h := HV.out
    rw [all_bytes] at h
    cases hh : s.data.toList.all (fun c => okB c.toNat) with
    | true => rw [hh] at h; simp at h; simp; omega
    | false => rw [hh] at h; simp at h; simp; omega)
  have hcase : ¬ 1 ≤ s.size ∨ (1 ≤ s.size ∧ ¬ s.size ≤ 16) ∨ (1 ≤ s.size ∧ s.size ≤ 16) := by omega
  obtain ⟨al, hal⟩ : ∃ al, al = s.data.toList.all (fun c => okB c.toNat) := ⟨_, rfl⟩
  rw [← hal] at HC
  have hN : nameB s.data.toList = (decide (1 ≤ s.size) && decide (s.size ≤ 16) && al) := by unfold nameB; rw [hsz, hal]
  rw [hN]
  clear hN hsz hal HI HX
  rcases hcase with h | ⟨h1, h2⟩ | ⟨h1, h2⟩
  · have a1 : ¬ (1 : Int) ≤ (s.size : Int) := by omega
    rw [decide_eq_false h]
    clear h
    go_enter Tryd.func37, Tryd.ntmps37
    go_wp2_with (go_quiet (fail))
    go_ret
    exact ⟨rfl, by first | exact belowN (Below.refl _ _) _ | exact Below.refl _ _⟩
  · have a1 : (1 : Int) ≤ (s.size : Int) := by omega
    have a2 : ¬ (s.size : Int) ≤ 16 := by omega
    rw [decide_eq_true h1, decide_eq_false h2]
    clear h1 h2
    go_enter Tryd.func37, Tryd.ntmps37
    go_wp2_with (go_quiet (fail))
    go_ret
    exact ⟨rfl, by first | exact belowN (Below.refl _ _) _ | exact Below.refl _ _⟩
  · have a1 : (1 : Int) ≤ (s.size : Int) := by omega
    have a2 : (s.size : Int) ≤ 16 := by omega
    rw [decide_eq_true h1, decide_eq_true h2]
    clear h1 h2
    go_enter Tryd.func37, Tryd.ntmps37
    go_wp2_with (first | (go_at_call 57; refine (HC.out _).mono ?_; rintro e w1 ⟨rfl, hb⟩) | go_quiet (fail))
    go_ret
    exact ⟨by simp, hb⟩
end Go.Proofs.YtgefnicpkfcghaaDoor
