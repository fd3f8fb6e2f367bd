/-
  The document's number of a text, walked; the law GaussTexts. Condition: the library's tables and errors lie as its text lays them; words are words.
-/
import Derived.Test.YtodphfgopngpeaaDoorGp7
namespace Go.Proofs.YtodphfgopngpeaaDoor
open Go.RowKit
set_option linter.unusedVariables false
set_option linter.unusedSimpArgs false
attribute [local irreducible] floatOfInt wz

theorem rTextMk {w : World} (p q : Int) : Calls Tryd.prog 22 #[mk p q] w fun e w' => e = .returned (.string ⟨(textG (wz p) (wz q)).toArray⟩) ∧ Below w.heap.size w w' := by
  have h := rText_any (w := w) (floatOfInt .f64 (wz p)) (floatOfInt .f64 (wz q))
  rw [txt_mk] at h
  exact h
/-- What the document's reading of digits is bound by. -/
def NumB (n at' : Nat) (r : Int × Int) : Prop := 0 ≤ r.1 ∧ r.1 ≤ 10000000 ∧ (r.2 = -1 ∨ ((at' : Int) < r.2 ∧ r.2 ≤ n))
set_option maxRecDepth 100000 in
set_option maxHeartbeats 8000000 in
theorem rparse_no {w : World} (s : ByteArray) (hs : s.size ≤ 1000000) (h : ∀ p q, InR p → InR q → s.data.toList ≠ textG p q) : Calls Tryd.prog 18 #[.string s] w fun e w' => e = .returned (.tuple #[.complex .f64 0 0, .int .i64 20]) ∧ Below w.heap.size w w' := by
  have hL : s.data.toList.length = s.size := by rw [Array.length_toList]; rfl
  have HN := Lib.hid (fun (at' : Nat) (x : Int) (hx : x = at') (ha : at' ≤ s.size) => show ∃ r : Int × Int, NumB s.size at' r ∧ ∀ W, Calls Tryd.prog 31 #[.string s, .int .i64 x] W fun e w' => e = .returned (.tuple #[.int .i64 r.1, .int .i64 r.2]) ∧ w' = W from by
    subst hx
    refine ⟨numR s.data.toList at', ?_, fun W => num_any s hs at' ha⟩
    have := numR_bounds s.data.toList at' (by omega)
    rw [hL] at this
    exact this)
  have HM := Lib.hid (fun W p q => rMake_any (w := W) p q)
  have HT := Lib.hid (fun W p q => rTextMk (w := W) p q)
  have HX := Lib.hid (fun p q => show (⟨(textG (wz p) (wz q)).toArray⟩ : ByteArray) ≠ s from fun he => h (wz p) (wz q) ⟨(wz_range p).1, (wz_range p).2⟩ ⟨(wz_range q).1, (wz_range q).2⟩ (by rw [← he]))
  have hszi : (s.size : Int) ≤ 1000000 := by omega
  clear hL h
  have hcase : (∃ at' : Nat, at' = 0 ∧ at' ≤ s.size ∧ ¬ (0 : Int) < s.size) ∨ (∃ (c : UInt8) (hc : 0 < s.size), s[0]'hc = c ∧ (((c.toNat : Int) == 45) = true ∨ ((c.toNat : Int) == 45) = false)) := by
    by_cases hz : 0 < s.size
    · refine .inr ⟨s[0]'hz, hz, rfl, ?_⟩
      cases (((s[0]'hz).toNat : Int) == 45)
      · exact .inr rfl
      · exact .inl rfl
    · exact .inl ⟨0, rfl, by omega, by omega⟩
  have HC := Lib.hid hcase
  have HSZ := Lib.hid hs
  clear hcase hs
  rcases HC.out with ⟨at', h1, h2, h3⟩ | ⟨c, hc0, hc, h45 | h45⟩
  · obtain ⟨⟨a, i⟩, hb, hn⟩ := HN.out 0 0 rfl (by omega)
    have HNN := Lib.hid hn
    obtain ⟨b1, b2, rfl | ⟨b3, b4⟩⟩ := hb
    · clear h1 h2 hn
      go_enter Tryd.func18, Tryd.ntmps18
      go_wp2_with fail
      refine (HNN.out _).mono ?_
      rintro e _ ⟨rfl, rfl⟩
      go_wp2
      go_ret2
      exact ⟨rfl, Below.refl _ _⟩
    · exfalso; simp only at b3 b4; omega
  · have hci : (0 : Int) < (s.size : Int) := by omega
    obtain ⟨⟨a, i⟩, hb, hn⟩ := HN.out 1 1 rfl (by omega)
    have HNN := Lib.hid hn
    clear hn
    obtain ⟨b1, b2, rfl | ⟨b3, b4⟩⟩ := hb
    · go_enter Tryd.func18, Tryd.ntmps18
      go_wp2_with fail
      refine (HNN.out _).mono ?_
      rintro e _ ⟨rfl, rfl⟩
      go_wp2
      go_ret2
      exact ⟨rfl, Below.refl _ _⟩
    · simp only at b1 b2 b3 b4
      obtain ⟨n, rfl⟩ : ∃ n : Nat, i = (n : Int) := ⟨i.toNat, by omega⟩
      go_enter Tryd.func18, Tryd.ntmps18
      go_wp2_with fail
      refine (HNN.out _).mono ?_
      rintro e _ ⟨rfl, rfl⟩
      by_cases hne : n = s.size
      · have hge : (s.size : Int) ≤ (n : Int) := by omega
        clear hne
        go_wp2
        go_ret2
        exact ⟨rfl, Below.refl _ _⟩
      · have hlt : n < s.size := by omega
        have hlti : (n : Int) < (s.size : Int) := by omega
        obtain ⟨d, hd⟩ : ∃ d : UInt8, s[n]'hlt = d := ⟨_, rfl⟩
        clear hne
        rcases (show (d.toNat : Int) = 43 ∨ (d.toNat : Int) = 45 ∨ ((d.toNat : Int) ≠ 43 ∧ (d.toNat : Int) ≠ 45) by omega) with h1 | h1 | ⟨h1, h2⟩
        · have e1 : ((d.toNat : Int) != 43) = false := by rw [h1]; rfl
          have e2 : ((d.toNat : Int) == 45) = false := by rw [h1]; rfl
          clear h1
          obtain ⟨⟨b, j⟩, hb2, hn2⟩ := HN.out (n + 1) ((n : Int) + 1) (by omega) (by omega)
          have HN2 := Lib.hid hn2
          clear hn2
          obtain ⟨b5, b6, rfl | ⟨b7, b8⟩⟩ := hb2
          · simp only at b5 b6
            go_wp2_with fail
            refine (HN2.out _).mono ?_
            rintro e _ ⟨rfl, rfl⟩
            go_wp2
            go_ret2
            exact ⟨rfl, Below.refl _ _⟩
          · simp only at b5 b6 b7 b8
            obtain ⟨m, rfl⟩ : ∃ m : Nat, j = (m : Int) := ⟨j.toNat, by omega⟩
            go_wp2_with fail
            refine (HN2.out _).mono ?_
            rintro e _ ⟨rfl, rfl⟩
            go_wp2_with fail
            · go_ret2
              exact ⟨rfl, Below.refl _ _⟩
            · have hse := seq_false (HX.out (-a) (b))
              have HSE := Lib.hid hse
              clear hse
              refine (HM.out _ _ _).mono ?_
              rintro e _ ⟨rfl, rfl⟩
              go_wp2_with fail
              refine (HT.out _ _ _).mono ?_
              rintro e w2 ⟨rfl, hb⟩
              have hse := HSE.out
              generalize (⟨(textG (wz (-a)) (wz (b))).toArray⟩ : ByteArray) = u at *
              go_wp2
              go_ret2
              exact ⟨rfl, hb⟩
        · have e1 : ((d.toNat : Int) != 43) = true := by rw [h1]; rfl
          have e2 : ((d.toNat : Int) != 45) = false := by rw [h1]; rfl
          have e3 : ((d.toNat : Int) == 45) = true := by rw [h1]; rfl
          clear h1
          obtain ⟨⟨b, j⟩, hb2, hn2⟩ := HN.out (n + 1) ((n : Int) + 1) (by omega) (by omega)
          have HN2 := Lib.hid hn2
          clear hn2
          obtain ⟨b5, b6, rfl | ⟨b7, b8⟩⟩ := hb2
          · simp only at b5 b6
            go_wp2_with fail
            refine (HN2.out _).mono ?_
            rintro e _ ⟨rfl, rfl⟩
            go_wp2
            go_ret2
            exact ⟨rfl, Below.refl _ _⟩
          · simp only at b5 b6 b7 b8
            obtain ⟨m, rfl⟩ : ∃ m : Nat, j = (m : Int) := ⟨j.toNat, by omega⟩
            go_wp2_with fail
            refine (HN2.out _).mono ?_
            rintro e _ ⟨rfl, rfl⟩
            go_wp2_with fail
            · go_ret2
              exact ⟨rfl, Below.refl _ _⟩
            · have hse := seq_false (HX.out (-a) (-b))
              have HSE := Lib.hid hse
              clear hse
              refine (HM.out _ _ _).mono ?_
              rintro e _ ⟨rfl, rfl⟩
              go_wp2_with fail
              refine (HT.out _ _ _).mono ?_
              rintro e w2 ⟨rfl, hb⟩
              have hse := HSE.out
              generalize (⟨(textG (wz (-a)) (wz (-b))).toArray⟩ : ByteArray) = u at *
              go_wp2
              go_ret2
              exact ⟨rfl, hb⟩
        · have e1 : ((d.toNat : Int) != 43) = true := bne_iff_ne.2 h1
          have e2 : ((d.toNat : Int) != 45) = true := bne_iff_ne.2 h2
          clear h1 h2
          go_wp2
          go_ret2
          exact ⟨rfl, Below.refl _ _⟩
  · have hci : (0 : Int) < (s.size : Int) := by omega
    obtain ⟨⟨a, i⟩, hb, hn⟩ := HN.out 0 0 rfl (by omega)
    have HNN := Lib.hid hn
    clear hn
    obtain ⟨b1, b2, rfl | ⟨b3, b4⟩⟩ := hb
    · go_enter Tryd.func18, Tryd.ntmps18
      go_wp2_with fail
      refine (HNN.out _).mono ?_
      rintro e _ ⟨rfl, rfl⟩
      go_wp2
      go_ret2
      exact ⟨rfl, Below.refl _ _⟩
    · simp only at b1 b2 b3 b4
      obtain ⟨n, rfl⟩ : ∃ n : Nat, i = (n : Int) := ⟨i.toNat, by omega⟩
      go_enter Tryd.func18, Tryd.ntmps18
      go_wp2_with fail
      refine (HNN.out _).mono ?_
      rintro e _ ⟨rfl, rfl⟩
      by_cases hne : n = s.size
      · have hge : (s.size : Int) ≤ (n : Int) := by omega
        clear hne
        go_wp2
        go_ret2
        exact ⟨rfl, Below.refl _ _⟩
      · have hlt : n < s.size := by omega
        have hlti : (n : Int) < (s.size : Int) := by omega
        obtain ⟨d, hd⟩ : ∃ d : UInt8, s[n]'hlt = d := ⟨_, rfl⟩
        clear hne
        rcases (show (d.toNat : Int) = 43 ∨ (d.toNat : Int) = 45 ∨ ((d.toNat : Int) ≠ 43 ∧ (d.toNat : Int) ≠ 45) by omega) with h1 | h1 | ⟨h1, h2⟩
        · have e1 : ((d.toNat : Int) != 43) = false := by rw [h1]; rfl
          have e2 : ((d.toNat : Int) == 45) = false := by rw [h1]; rfl
          clear h1
          obtain ⟨⟨b, j⟩, hb2, hn2⟩ := HN.out (n + 1) ((n : Int) + 1) (by omega) (by omega)
          have HN2 := Lib.hid hn2
          clear hn2
          obtain ⟨b5, b6, rfl | ⟨b7, b8⟩⟩ := hb2
          · simp only at b5 b6
            go_wp2_with fail
            refine (HN2.out _).mono ?_
            rintro e _ ⟨rfl, rfl⟩
            go_wp2
            go_ret2
            exact ⟨rfl, Below.refl _ _⟩
          · simp only at b5 b6 b7 b8
            obtain ⟨m, rfl⟩ : ∃ m : Nat, j = (m : Int) := ⟨j.toNat, by omega⟩
            go_wp2_with fail
            refine (HN2.out _).mono ?_
            rintro e _ ⟨rfl, rfl⟩
            go_wp2_with fail
            · go_ret2
              exact ⟨rfl, Below.refl _ _⟩
            · have hse := seq_false (HX.out (a) (b))
              have HSE := Lib.hid hse
              clear hse
              refine (HM.out _ _ _).mono ?_
              rintro e _ ⟨rfl, rfl⟩
              go_wp2_with fail
              refine (HT.out _ _ _).mono ?_
              rintro e w2 ⟨rfl, hb⟩
              have hse := HSE.out
              generalize (⟨(textG (wz (a)) (wz (b))).toArray⟩ : ByteArray) = u at *
              go_wp2
              go_ret2
              exact ⟨rfl, hb⟩
        · have e1 : ((d.toNat : Int) != 43) = true := by rw [h1]; rfl
          have e2 : ((d.toNat : Int) != 45) = false := by rw [h1]; rfl
          have e3 : ((d.toNat : Int) == 45) = true := by rw [h1]; rfl
          clear h1
          obtain ⟨⟨b, j⟩, hb2, hn2⟩ := HN.out (n + 1) ((n : Int) + 1) (by omega) (by omega)
          have HN2 := Lib.hid hn2
          clear hn2
          obtain ⟨b5, b6, rfl | ⟨b7, b8⟩⟩ := hb2
          · simp only at b5 b6
            go_wp2_with fail
            refine (HN2.out _).mono ?_
            rintro e _ ⟨rfl, rfl⟩
            go_wp2
            go_ret2
            exact ⟨rfl, Below.refl _ _⟩
          · simp only at b5 b6 b7 b8
            obtain ⟨m, rfl⟩ : ∃ m : Nat, j = (m : Int) := ⟨j.toNat, by omega⟩
            go_wp2_with fail
            refine (HN2.out _).mono ?_
            rintro e _ ⟨rfl, rfl⟩
            go_wp2_with fail
            · go_ret2
              exact ⟨rfl, Below.refl _ _⟩
            · have hse := seq_false (HX.out (a) (-b))
              have HSE := Lib.hid hse
              clear hse
              refine (HM.out _ _ _).mono ?_
              rintro e _ ⟨rfl, rfl⟩
              go_wp2_with fail
              refine (HT.out _ _ _).mono ?_
              rintro e w2 ⟨rfl, hb⟩
              have hse := HSE.out
              generalize (⟨(textG (wz (a)) (wz (-b))).toArray⟩ : ByteArray) = u at *
              go_wp2
              go_ret2
              exact ⟨rfl, hb⟩
        · have e1 : ((d.toNat : Int) != 43) = true := bne_iff_ne.2 h1
          have e2 : ((d.toNat : Int) != 45) = true := bne_iff_ne.2 h2
          clear h1 h2
          go_wp2
          go_ret2
          exact ⟨rfl, Below.refl _ _⟩
end Go.Proofs.YtodphfgopngpeaaDoor
