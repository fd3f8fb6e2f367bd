/-
  The law ScriptTexts, walked. Condition: the tables lie as the program's text, and the library's, lay them.
-/
import Derived.Test.YtgefnicpkfcghaaDoorSfP
import Derived.Test.YtgefnicpkfcghaaDoorSfO
import Derived.Test.YtgefnicpkfcghaaDoorScS
namespace Go.Proofs.YtgefnicpkfcghaaDoor
open Go.RowKit
set_option linter.unusedVariables false
set_option linter.unusedSimpArgs false
attribute [local go_sem] Oper.semAt_some

/-- What a text's lines tell: plain. -/
def ParseRes (ls : List (List UInt8)) (acc : List O) (line er : Int) : Prop :=
  (line = 0 ∧ er = 0 ∧ ls.map lineS = acc.map some ∧ ls.length ≤ 10000) ∨
  (∃ k : Nat, acc = [] ∧ line = ((k + 1 : Nat) : Int) ∧ er = 200 ∧ k ≤ 10000 ∧ (∃ ac : List O, (ls.take k).map lineS = ac.map some) ∧ ∃ x, ls[k]? = some x ∧ (lineS x = none ∨ 10000 ≤ k))
theorem map_some_inj : ∀ {a b : List O}, a.map some = b.map some → a = b
  | [], [], _ => rfl
  | x :: a, y :: b, h => by
    rw [List.map_cons, List.map_cons] at h
    injection h with h1 h2
    rw [Option.some.inj h1, map_some_inj h2]
  | [], _ :: _, h => by cases h
  | _ :: _, [], h => by cases h
theorem fine_at {ls : List (List UInt8)} {k m : Nat} {ac : List O} {x : List UInt8} (h : (ls.take m).map lineS = ac.map some) (hk : k < m) (hx : ls[k]? = some x) : lineS x ≠ none := by
  intro hn
  have h1 : ((ls.take m).map lineS)[k]? = some none := by rw [List.getElem?_map, List.getElem?_take, if_pos hk, hx, ← hn]; rfl
  rw [h, List.getElem?_map] at h1
  cases h2 : ac[k]? with
  | none => rw [h2] at h1; cases h1
  | some y => rw [h2] at h1; cases h1
theorem parseRes_one {ls : List (List UInt8)} {a a' : List O} {l l' e e' : Int} (h : ParseRes ls a l e) (h' : ParseRes ls a' l' e') : a = a' ∧ l = l' ∧ e = e' := by
  have key : ∀ {k : Nat} {x : List UInt8} {ac : List O}, ls[k]? = some x → (lineS x = none ∨ 10000 ≤ k) → ls.map lineS = ac.map some → ls.length ≤ 10000 → False := fun {k x ac} hx hb hm hl => by
    have hk := (List.getElem?_eq_some_iff.1 hx).1
    rcases hb with hb | hb
    · exact fine_at (m := ls.length) (k := k) (by rw [List.take_length]; exact hm) hk hx hb
    · omega
  rcases h with ⟨h1, h2, h3, h4⟩ | ⟨k, h1, h2, h3, h4, ⟨ac, h5⟩, x, h6, h7⟩
  · rcases h' with ⟨g1, g2, g3, g4⟩ | ⟨k', g1, g2, g3, g4, ⟨ac', g5⟩, x', g6, g7⟩
    · exact ⟨map_some_inj (by rw [← h3, g3]), by rw [h1, g1], by rw [h2, g2]⟩
    · exact (key g6 g7 h3 h4).elim
  · rcases h' with ⟨g1, g2, g3, g4⟩ | ⟨k', g1, g2, g3, g4, ⟨ac', g5⟩, x', g6, g7⟩
    · exact (key h6 h7 g3 g4).elim
    · have hk : k = k' := by
        rcases Nat.lt_trichotomy k k' with h | h | h
        · rcases h7 with h7 | h7
          · exact (fine_at g5 h h6 h7).elim
          · omega
        · exact h
        · rcases g7 with g7 | g7
          · exact (fine_at h5 h g6 g7).elim
          · omega
      subst hk
      exact ⟨by rw [h1, g1], by rw [h2, g2], by rw [h3, g3]⟩
theorem parse_res {w w' : World} {s : List UInt8} {e : Ending} (h : ParseOut w s e w') : ∃ (A : Option Addr) (c : Nat) (acc : List O) (line er : Int), e = .returned (.tuple #[.slice A acc.length c, .int .i64 line, .int .i64 er]) ∧ OpsAt w' A acc ∧ ParseRes (lns s) acc line er ∧ Below w.heap.size w w' := by
  rcases h with ⟨v, acc, rfl, h1, h2, h3, h4⟩ | ⟨k, rfl, h1, h2, h3, h4⟩
  · obtain ⟨A, c, rfl, hA, _⟩ := ownO_at h1
    exact ⟨A, c, acc, 0, 0, rfl, hA, .inl ⟨rfl, rfl, h2, h3⟩, h4⟩
  · exact ⟨none, 0, [], _, 200, rfl, RowsAt.nil _ _ _, .inr ⟨k, rfl, rfl, rfl, h1, h2, h3⟩, h4⟩
theorem res_len {ls : List (List UInt8)} {acc : List O} {l e : Int} (h : ParseRes ls acc l e) : acc.length ≤ 10000 := by
  rcases h with ⟨_, _, h3, h4⟩ | ⟨k, h1, _⟩
  · have := congrArg List.length h3
    rw [List.length_map, List.length_map] at this
    omega
  · rw [h1]; exact Nat.zero_le _
theorem ofL_len (bs : List UInt8) : (ofL bs).length = bs.length / 4 := by
  unfold ofL
  rw [List.length_map, List.length_range]

set_option maxRecDepth 100000 in
set_option maxHeartbeats 16000000 in
theorem textsLaw_any {w : World} (hG : Ground w) (A C : Option Addr) (ca cc : Nat) (xs : List O) (bs : List UInt8) (s : ByteArray) (hx : OpsAt w A xs) (hb : BytesAt w C bs) (hxl : xs.length ≤ maxLen) (hbl : bs.length ≤ maxLen) (hcap : bs.length ≤ cc) (hcm : cc ≤ maxLen) (hv : Vals xs) (hs : s.size ≤ maxLen) :
    Calls Tryd.prog 6 #[.slice A xs.length ca, .string s, .slice C bs.length cc] w fun e w' => e = .returned (.bool true) ∧ Below w.heap.size w w' := by
  unfold maxLen at hxl hbl hs hcm
  by_cases hbig : 200 < xs.length ∨ 6000 < s.size ∨ 6000 < bs.length
  · have hcc : (200 : Int) < (xs.length : Int) ∨ (¬ (200 : Int) < (xs.length : Int) ∧ (6000 : Int) < (s.size : Int)) ∨ (¬ (200 : Int) < (xs.length : Int) ∧ ¬ (6000 : Int) < (s.size : Int) ∧ (6000 : Int) < (bs.length : Int)) := by omega
    have HB := Lib.hid (Below.refl w.heap.size w)
    clear hx hb hv hG hbig
    rcases hcc with h1 | ⟨h1, h2⟩ | ⟨h1, h2, h3⟩
    all_goals
      go_enter Tryd.func6, Tryd.ntmps6
      go_wp2
      go_ret
      exact ⟨rfl, HB.out⟩
  have g1 : ¬ (200 : Int) < (xs.length : Int) := by omega
  have g2 : ¬ (6000 : Int) < (s.size : Int) := by omega
  have g3 : ¬ (6000 : Int) < (bs.length : Int) := by omega
  have hl2 : xs.length ≤ 200 := by omega
  obtain ⟨tv, htv⟩ : ∃ tv : ByteArray, (⟨((textL xs).getD []).toArray⟩ : ByteArray) = tv := ⟨_, rfl⟩
  obtain ⟨te, hte⟩ : ∃ te, errO (textL xs) = te := ⟨_, rfl⟩
  have T1 := Lib.hid (by have h := text_any hG A ca xs (by omega) hx hv; unfold strV at h; rw [htv, hte] at h; exact h)
  have T2 := Lib.hid (fun W (hW : Below w.heap.size w W) => by have h := refText_any (w := W) A ca xs (by omega) (hx.below hW) hv; unfold strV at h; rw [htv, hte] at h; exact h)
  have P1 := Lib.hid (fun W (hW : Below w.heap.size w W) => (callsIn_wide.1 (parse_in 12 (by omega) (hG.below hW) s (by omega))).mono fun e w' h => parse_res h)
  have P2 := Lib.hid (fun W => (refParse_any (w := W) s (by omega)).mono fun e w' h => parse_res h)
  have O1 := Lib.hid (fun W (hW : Below w.heap.size w W) => (ofs_any (w := W) C bs cc (by omega) hcap hcm (hb.below hW)).mono fun e w' h => show ∃ A c, e = .returned (.slice A (bs.length / 4) c) ∧ OpsAt w' A (ofL bs) ∧ Below W.heap.size W w' from by
    obtain ⟨v, rfl, ho, hbw⟩ := h
    obtain ⟨A, c, rfl, hA, _⟩ := ownO_at ho
    exact ⟨A, c, by rw [ofL_len], hA, hbw⟩)
  have O2 := Lib.hid (fun W (hW : Below w.heap.size w W) => (refOf_any (w := W) C bs cc (by omega) (hb.below hW)).mono fun e w' h => show ∃ A c, e = .returned (.slice A (bs.length / 4) c) ∧ OpsAt w' A (ofL bs) ∧ Below W.heap.size W w' from by
    obtain ⟨v, rfl, ho, hbw⟩ := h
    obtain ⟨A, c, rfl, hA, _⟩ := ownO_at ho
    exact ⟨A, c, by rw [ofL_len], hA, hbw⟩)
  have hb0 := Below.refl w.heap.size w
  have hlb : bs.length / 4 ≤ 1000000 := by omega
  obtain ⟨m4, hm4⟩ : ∃ m4, bs.length / 4 = m4 := ⟨_, rfl⟩
  have HL4 := Lib.hid ((ofL_len bs).trans hm4)
  rw [hm4] at O1 O2 hlb
  clear hx hb hv hG hbig htv hte hm4
  go_enter Tryd.func6, Tryd.ntmps6
  go_wp2_with fail
  refine T1.out.mono ?_
  rintro e W1 ⟨rfl, hb1⟩
  have HB1 := Lib.hid hb1
  clear hb1 T1 hb0
  go_wp2_with fail
  refine (T2.out _ HB1.out).mono ?_
  rintro e W2 ⟨rfl, hb2⟩
  have HB2 := Lib.hid (HB1.out.trans (hb2.mono HB1.out.size))
  clear hb2 HB1 T2
  go_wp2_with fail
  refine (P1.out _ HB2.out).mono ?_
  rintro e W3 ⟨A3, c3, acc, line, er, rfl, hS3, hres, hb3⟩
  have HB3 := Lib.hid (HB2.out.trans (hb3.mono HB2.out.size))
  have HS3 := Lib.hid hS3
  have HRES := Lib.hid hres
  clear hb3 HB2 P1 hS3 hres
  go_wp2_with fail
  refine (P2.out _).mono ?_
  rintro e W4 ⟨A4, c4, acc', line', er', rfl, hS4, hres, hb4⟩
  obtain ⟨h1, h2, h3⟩ := parseRes_one HRES.out hres
  subst h1 h2 h3
  have HS3b := Lib.hid (HS3.out.below hb4)
  have HS4 := Lib.hid hS4
  have HB4 := Lib.hid (HB3.out.trans (hb4.mono HB3.out.size))
  have hlen := res_len hres
  clear hb4 HB3 P2 hS4 hres HS3 HRES
  go_wp2_with fail
  refine (O1.out _ HB4.out).mono ?_
  rintro e W5 ⟨A5, c5, rfl, hS5, hb5⟩
  have HS5 := Lib.hid hS5
  have HS35 := HS3b.out.below hb5
  have HS45 := HS4.out.below hb5
  have HB5 := Lib.hid (HB4.out.trans (hb5.mono HB4.out.size))
  have SM := Lib.hid (show Calls Tryd.prog 20 #[.slice A3 acc.length c3, .slice A4 acc.length c4] W5 fun e w' => e = .returned (.bool true) ∧ Below W5.heap.size W5 w' from by
    have h := same_any (w := W5) A3 A4 c3 c4 acc acc HS35 HS45 (by omega) (by omega)
    rw [decide_eq_true rfl] at h
    exact h)
  clear hb5 HB4 O1 hS5 HS3b HS4 HS35 HS45
  generalize acc.length = al at *
  go_wp2_with fail
  refine SM.out.mono ?_
  rintro e W6 ⟨rfl, hb6⟩
  have HS6 := Lib.hid (HS5.out.below hb6)
  have HB6 := Lib.hid (HB5.out.trans (hb6.mono HB5.out.size))
  clear hb6 HB5 SM HS5
  go_wp2_with fail
  refine (O2.out _ HB6.out).mono ?_
  rintro e W7 ⟨A7, c7, rfl, hS7, hb7⟩
  have HB7 := Lib.hid (HB6.out.trans (hb7.mono HB6.out.size))
  have SN := Lib.hid (show Calls Tryd.prog 20 #[.slice A5 m4 c5, .slice A7 m4 c7] W7 fun e w' => e = .returned (.bool true) ∧ Below W7.heap.size W7 w' from by
    have h := same_any (w := W7) A5 A7 c5 c7 (ofL bs) (ofL bs) (HS6.out.below hb7) hS7 (by rw [HL4.out]; exact hlb) (by rw [HL4.out]; exact hlb)
    rw [decide_eq_true rfl, HL4.out] at h
    exact h)
  clear hb7 HB6 O2 hS7 HS6
  go_wp2_with fail
  refine SN.out.mono ?_
  rintro e W8 ⟨rfl, hb8⟩
  have HB8 := Lib.hid (HB7.out.trans (hb8.mono HB7.out.size))
  clear hb8 HB7 SN
  go_wp2
  go_ret
  exact ⟨by first | rfl | (simp; done), HB8.out⟩
end Go.Proofs.YtgefnicpkfcghaaDoor
