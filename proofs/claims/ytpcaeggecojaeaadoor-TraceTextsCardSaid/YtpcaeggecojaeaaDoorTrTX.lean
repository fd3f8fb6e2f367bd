/-
  The law TraceTexts, walked. Condition: the tables lie as the program's text, and the library's, lay them.
-/
import Derived.Test.YtpcaeggecojaeaaDoorRfP
import Derived.Test.YtpcaeggecojaeaaDoorTrD2
namespace Go.Proofs.YtpcaeggecojaeaaDoor
open Go.RowKit
set_option linter.unusedVariables false
set_option linter.unusedSimpArgs false
attribute [local go_sem] Oper.semAt_some

/-- What a text's lines tell: plain. -/
def ParseRes (ls : List (List UInt8)) (acc : List S) (line er : Int) : Prop :=
  (line = 0 ∧ er = 0 ∧ ls.map lineS = acc.map some ∧ ls.length ≤ 10000) ∨
  (∃ k : Nat, acc = [] ∧ line = ((k + 1 : Nat) : Int) ∧ er = 210 ∧ k ≤ 10000 ∧ (∃ ac : List S, (ls.take k).map lineS = ac.map some) ∧ ∃ x, ls[k]? = some x ∧ (lineS x = none ∨ 10000 ≤ k))
theorem map_some_inj : ∀ {a b : List S}, a.map some = b.map some → a = b
  | [], [], _ => rfl
  | x :: a, y :: b, h => by
    rw [List.map_cons, List.map_cons] at h
    injection h with h1 h2
    rw [Option.some.inj h1, map_some_inj h2]
  | [], _ :: _, h => by cases h
  | _ :: _, [], h => by cases h
theorem fine_at {ls : List (List UInt8)} {k m : Nat} {ac : List S} {x : List UInt8} (h : (ls.take m).map lineS = ac.map some) (hk : k < m) (hx : ls[k]? = some x) : lineS x ≠ none := by
  intro hn
  have h1 : ((ls.take m).map lineS)[k]? = some none := by rw [List.getElem?_map, List.getElem?_take, if_pos hk, hx, ← hn]; rfl
  rw [h, List.getElem?_map] at h1
  cases h2 : ac[k]? with
  | none => rw [h2] at h1; cases h1
  | some y => rw [h2] at h1; cases h1
theorem parseRes_one {ls : List (List UInt8)} {a a' : List S} {l l' e e' : Int} (h : ParseRes ls a l e) (h' : ParseRes ls a' l' e') : a = a' ∧ l = l' ∧ e = e' := by
  have key : ∀ {k : Nat} {x : List UInt8} {ac : List S}, ls[k]? = some x → (lineS x = none ∨ 10000 ≤ k) → ls.map lineS = ac.map some → ls.length ≤ 10000 → False := fun {k x ac} hx hb hm hl => by
    have hk := (List.getElem?_eq_some_iff.1 hx).1
    rcases hb with hb | hb
    · exact fine_at (m := ls.length) (k := k) (by rw [List.take_length]; exact hm) hk hx hb
    · omega
  rcases h with ⟨h1, h2, h3, h4⟩ | ⟨k, h1, h2, h3, h4, ⟨ac, h5⟩, x, h6, h7⟩
  · rcases h' with ⟨g1, g2, g3, g4⟩ | ⟨k', g1, g2, g3, g4, ⟨ac', g5⟩, x', g6, g7⟩
    · exact ⟨map_some_inj (by rw [← h3, g3]), by rw [h1, g1], by rw [h2, g2]⟩
    · exact (key g6 g7 h3 h4).elim
  · rcases h' with ⟨g1, g2, g3, g4⟩ | ⟨k', g1, g2, g3, g4, ⟨ac', g5⟩, x', g6, g7⟩
    · exact (key h6 h7 g3 g4).elim
    · have hk : k = k' := by
        rcases Nat.lt_trichotomy k k' with h | h | h
        · rcases h7 with h7 | h7
          · exact (fine_at g5 h h6 h7).elim
          · omega
        · exact h
        · rcases g7 with g7 | g7
          · exact (fine_at h5 h g6 g7).elim
          · omega
      subst hk
      exact ⟨by rw [h1, g1], by rw [h2, g2], by rw [h3, g3]⟩
theorem parse_res {w w' : World} {s : List UInt8} {e : Ending} (h : ParseOut w s e w') : ∃ (A : Option Addr) (c : Nat) (acc : List S) (line er : Int), e = .returned (.tuple #[.slice A acc.length c, .int .i64 line, .int .i64 er]) ∧ SeenAt w' A acc ∧ ParseRes (lns s) acc line er ∧ Below w.heap.size w w' := by
  rcases h with ⟨v, acc, rfl, h1, h2, h3, h4⟩ | ⟨k, rfl, h1, h2, h3, h4⟩
  · obtain ⟨A, c, rfl, hA, _⟩ := ownS_at h1
    exact ⟨A, c, acc, 0, 0, rfl, hA, .inl ⟨rfl, rfl, h2, h3⟩, h4⟩
  · exact ⟨none, 0, [], _, 210, rfl, RowsAt.nil _ _ _, .inr ⟨k, rfl, rfl, rfl, h1, h2, h3⟩, h4⟩
theorem res_len {ls : List (List UInt8)} {acc : List S} {l e : Int} (h : ParseRes ls acc l e) : acc.length ≤ 10000 := by
  rcases h with ⟨_, _, h3, h4⟩ | ⟨k, h1, _⟩
  · have := congrArg List.length h3
    rw [List.length_map, List.length_map] at this
    omega
  · rw [h1]; exact Nat.zero_le _
theorem lineC {w : World} (hG : Ground w) (x : S) (h0 : 0 ≤ x.v) (hv : x.v ≤ 4294967295) : Calls Tryd.prog 13 #[.agg #[.int .i64 x.p, .int .i64 x.k, .int .i64 x.c, .int .u32 x.v]] w fun e w' => e = .returned (.tuple #[.string (lineBy x), .int .i64 (lineEr x)]) ∧ Below w.heap.size w w' := by
  unfold lineBy lineEr
  obtain ⟨p, k, c, v⟩ := x
  simp only at h0 hv
  by_cases hm : May ⟨p, k, c, v⟩
  · rw [if_pos hm, if_pos hm]
    obtain ⟨k, rfl⟩ : ∃ n : Nat, k = n := ⟨k.toNat, by have := hm.2.2.1; simp only at this; omega⟩
    obtain ⟨v, rfl⟩ : ∃ n : Nat, v = n := ⟨v.toNat, by omega⟩
    exact line_yes hG p c k v (by omega) hm
  · rw [if_neg hm, if_neg hm]
    exact line_no p k c v h0 hm

set_option maxRecDepth 100000 in
set_option maxHeartbeats 16000000 in
theorem textsLaw_any {w : World} (hG : Ground w) (A : Option Addr) (ca : Nat) (xs : List S) (hA : SeenAt w A xs) (hl : xs.length ≤ maxLen) (hv : Vals xs) (s : ByteArray) (hs : s.size ≤ maxLen) (t : ByteArray) (ht : t.size ≤ maxLen) :
    Calls Tryd.prog 5 #[.slice A xs.length ca, .string s, .string t] w fun e w' => e = .returned (.bool true) ∧ Below w.heap.size w w' := by
  unfold maxLen at hl hs ht
  by_cases hbig : 200 < xs.length ∨ 300 < s.size ∨ 6000 < t.size
  · have hcc : (200 : Int) < (xs.length : Int) ∨ (¬ (200 : Int) < (xs.length : Int) ∧ (300 : Int) < (s.size : Int)) ∨ (¬ (200 : Int) < (xs.length : Int) ∧ ¬ (300 : Int) < (s.size : Int) ∧ (6000 : Int) < (t.size : Int)) := by omega
    have HB := Lib.hid (Below.refl w.heap.size w)
    clear hA hv hG hbig
    rcases hcc with h1 | ⟨h1, h2⟩ | ⟨h1, h2, h3⟩
    all_goals
      go_enter Tryd.func5, Tryd.ntmps5
      go_wp2
      go_ret
      exact ⟨rfl, HB.out⟩
  have g1 : ¬ (200 : Int) < (xs.length : Int) := by omega
  have g2 : ¬ (300 : Int) < (s.size : Int) := by omega
  have g3 : ¬ (6000 : Int) < (t.size : Int) := by omega
  have hl2 : xs.length ≤ 200 := by omega
  have HA := Lib.hid (fun W (hW : Below w.heap.size w W) => hA.below hW)
  have HV := Lib.hid hv
  have HG := Lib.hid (fun W (hW : Below w.heap.size w W) => hG.below hW)
  obtain ⟨rp, rk, rc, rv, hsa⟩ : ∃ p q c u : Int, seenA (readL s.data.toList) = #[.int .i64 p, .int .i64 q, .int .i64 c, .int .u32 u] := by
    cases readL s.data.toList with
    | none => exact ⟨0, 0, 0, 0, rfl⟩
    | some y => exact ⟨y.p, y.k, y.c, y.v, rfl⟩
  obtain ⟨re, hre⟩ : ∃ re, errN (readL s.data.toList) = re := ⟨_, rfl⟩
  obtain ⟨tv, htv⟩ : ∃ tv : ByteArray, (⟨((textL xs).getD []).toArray⟩ : ByteArray) = tv := ⟨_, rfl⟩
  obtain ⟨te, hte⟩ : ∃ te, errN (textL xs) = te := ⟨_, rfl⟩
  have R1 := Lib.hid (fun W (hW : Below w.heap.size w W) => by have h := read_any (hG.below hW) s (by omega); rw [hsa, hre] at h; exact h)
  have R2 := Lib.hid (fun W => by have h := refRead_any (w := W) s (by omega); rw [hsa, hre] at h; exact h)
  have T1 := Lib.hid (fun W (hW : Below w.heap.size w W) => by have h := text_any (hG.below hW) A ca xs (by omega) (hA.below hW) hv; unfold strV at h; rw [htv, hte] at h; exact h)
  have T2 := Lib.hid (fun W (hW : Below w.heap.size w W) => by have h := refText_any (w := W) A ca xs (by omega) (hA.below hW) hv; unfold strV at h; rw [htv, hte] at h; exact h)
  have P1 := Lib.hid (fun W (hW : Below w.heap.size w W) => (callsIn_wide.1 (parse_in 12 (by omega) (hG.below hW) t (by omega))).mono fun e w' h => parse_res h)
  have P2 := Lib.hid (fun W => (refParse_any (w := W) t (by omega)).mono fun e w' h => parse_res h)
  have HE := fun W => eqSeen ⟨rp, rk, rc, rv⟩ ⟨rp, rk, rc, rv⟩ W
  simp only [S.cells, decide_true] at HE
  have hb0 := Below.refl w.heap.size w
  clear hA hv hG hbig hsa hre htv hte
  go_enter Tryd.func5, Tryd.ntmps5
  go_wp2
  go_loopw [42] (fun i wr => ∃ k : Nat, i = .int .i64 (k : Int) ∧ k ≤ xs.length ∧ Below w.heap.size w wr) (fun i _ => xs.length - (intOf i).toNat)
  case atStart => exact ⟨0, rfl, Nat.zero_le _, hb0⟩
  case round =>
    obtain ⟨k, rfl, hk, hB⟩ := hrel
    clear hb0 HE
    by_cases hkl : k < xs.length
    · have hka : (k : Int) < (xs.length : Int) := by omega
      have hk0 : (0 : Int) ≤ (k : Int) := by omega
      have hxe : xs[k]? = some xs[k] := List.getElem?_eq_getElem hkl
      obtain ⟨hx0, hx1⟩ := HV.out _ (List.getElem_mem hkl)
      have HC := Lib.hid (fun W (hW : Below w.heap.size w W) => seen_at (HA.out W hW) hxe)
      obtain ⟨b, off, hAe, hbl, c0, c1, c2, c3⟩ := HC.out _ hB
      have HAE := Lib.hid hAe
      subst hAe
      generalize xs[k] = x at *
      have L1 := Lib.hid (fun W (hW : Below w.heap.size w W) => lineC (HG.out W hW) x hx0 hx1)
      have L2 := Lib.hid (fun W => refLineC (w := W) x hx0 hx1)
      have L3 := Lib.hid (fun W => check_any (w := W) x.p x.k x.c x.v hx0)
      have hmn : mayN ⟨x.p, x.k, x.c, x.v⟩ = lineEr x := rfl
      rw [hmn] at L3
      obtain ⟨lb, hlb⟩ : ∃ lb, lineBy x = lb := ⟨_, rfl⟩
      obtain ⟨le, hle⟩ : ∃ le, lineEr x = le := ⟨_, rfl⟩
      rw [hlb, hle] at L1 L2
      rw [hle] at L3
      obtain ⟨p, q, c, v⟩ := x
      simp only at c0 c1 c2 c3 hx0 hx1 L1 L2 L3 HC
      have HCC := Lib.hid (fun W (hW : Below w.heap.size w W) => show b < W.heap.size ∧ W.cell? ⟨b, off + k * 4, none⟩ = some (.int .i64 p) ∧ W.cell? ⟨b, off + k * 4 + 1, none⟩ = some (.int .i64 q) ∧ W.cell? ⟨b, off + k * 4 + 2, none⟩ = some (.int .i64 c) ∧ W.cell? ⟨b, off + k * 4 + 3, none⟩ = some (.int .u32 v) from by
        obtain ⟨b', off', e, h1, h2⟩ := HC.out W hW
        injection e with e
        injection e with e1 e2 _
        subst e1 e2
        exact ⟨h1, h2⟩)
      clear hxe hlb hle hmn HC
      have HB := Lib.hid hB
      clear hB
      go_wp2_with fail
      refine (L1.out _ HB.out).mono ?_
      rintro e W1 ⟨rfl, hb1⟩
      have HB1 := Lib.hid (HB.out.trans (hb1.mono HB.out.size))
      clear hb1 HB L1 c0 c1 c2 c3 hbl
      obtain ⟨hbl, c0, c1, c2, c3⟩ := HCC.out _ HB1.out
      go_wp2_with fail
      refine (L2.out _).mono ?_
      rintro e W2 ⟨rfl, hb2⟩
      have HB2 := Lib.hid (HB1.out.trans (hb2.mono HB1.out.size))
      clear hb2 HB1 L2 c0 c1 c2 c3 hbl
      obtain ⟨hbl, c0, c1, c2, c3⟩ := HCC.out _ HB2.out
      go_wp2_with fail
      refine (L3.out _).mono ?_
      rintro e W3 ⟨rfl, hb3⟩
      have HB3 := Lib.hid (HB2.out.trans (hb3.mono HB2.out.size))
      clear hb3 HB2 L3 c0 c1 c2 c3 hbl
      go_wp2
      go_roundw
      case rel => exact ⟨k + 1, by go_num, by omega, HB3.out⟩
      case measure => simp [intOf]; omega
    · have hkk : k = xs.length := by omega
      subst hkk
      have HE := fun W => eqSeen ⟨rp, rk, rc, rv⟩ ⟨rp, rk, rc, rv⟩ W
      simp only [S.cells, decide_true] at HE
      have HB := Lib.hid hB
      clear hB
      go_wp2_with fail
      refine (R1.out _ HB.out).mono ?_
      rintro e W1 ⟨rfl, hb1⟩
      have hX1 := Blk.new W1 27 #[.int .i64 rp, .int .i64 rk, .int .i64 rc, .int .u32 rv]
      have hB1 := bl_new (HB.out.trans (hb1.mono HB.out.size)) (.cells #[.int .i64 rp, .int .i64 rk, .int .i64 rc, .int .u32 rv] 27)
      clear hb1 HB R1
      go_wp2_with fail
      generalize hWW : World.alloc W1 (.cells #[.int .i64 rp, .int .i64 rk, .int .i64 rc, .int .u32 rv] 27) = V1 at *
      generalize hbb : W1.heap.size = b1 at *
      clear hWW hbb
      have HX1 := Lib.hid hX1
      have HB1 := Lib.hid hB1
      clear hX1 hB1
      refine (R2.out _).mono ?_
      rintro e W2 ⟨rfl, hb2⟩
      have hX2 := (HX1.out.below hb2 HX1.out.lt).alloc (.cells #[.int .i64 rp, .int .i64 rk, .int .i64 rc, .int .u32 rv] 27)
      have hY2 := Blk.new W2 27 #[.int .i64 rp, .int .i64 rk, .int .i64 rc, .int .u32 rv]
      have hB2 := bl_new (HB1.out.trans (hb2.mono HB1.out.size)) (.cells #[.int .i64 rp, .int .i64 rk, .int .i64 rc, .int .u32 rv] 27)
      clear hb2 HB1 HX1 R2
      go_wp2_with fail
      generalize hWW : World.alloc W2 (.cells #[.int .i64 rp, .int .i64 rk, .int .i64 rc, .int .u32 rv] 27) = V2 at *
      generalize hbb : W2.heap.size = b2 at *
      clear hWW hbb
      have HX2 := Lib.hid hX2
      have HY2 := Lib.hid hY2
      have HB2 := Lib.hid hB2
      clear hX2 hY2 hB2
      refine (T1.out _ HB2.out).mono ?_
      rintro e W3 ⟨rfl, hb3⟩
      have HX3 := Lib.hid (HX2.out.below hb3 HX2.out.lt)
      have HY3 := Lib.hid (HY2.out.below hb3 HY2.out.lt)
      have HB3 := Lib.hid (HB2.out.trans (hb3.mono HB2.out.size))
      clear hb3 HX2 HY2 HB2 T1
      go_wp2_with fail
      refine (T2.out _ HB3.out).mono ?_
      rintro e W4 ⟨rfl, hb4⟩
      have HX4 := Lib.hid (HX3.out.below hb4 HX3.out.lt)
      have HY4 := Lib.hid (HY3.out.below hb4 HY3.out.lt)
      have HB4 := Lib.hid (HB3.out.trans (hb4.mono HB3.out.size))
      clear hb4 HX3 HY3 HB3 T2
      go_wp2_with fail
      refine (P1.out _ HB4.out).mono ?_
      rintro e W5 ⟨A5, c5, acc, line, er, rfl, hS5, hres, hb5⟩
      have HX5 := Lib.hid (HX4.out.below hb5 HX4.out.lt)
      have HY5 := Lib.hid (HY4.out.below hb5 HY4.out.lt)
      have HB5 := Lib.hid (HB4.out.trans (hb5.mono HB4.out.size))
      have HS5 := Lib.hid hS5
      have HRES := Lib.hid hres
      clear hb5 HX4 HY4 HB4 P1 hS5 hres
      go_wp2_with fail
      refine (P2.out _).mono ?_
      rintro e W6 ⟨A6, c6, acc', line', er', rfl, hS6, hres, hb6⟩
      obtain ⟨h1, h2, h3⟩ := parseRes_one HRES.out hres
      subst h1 h2 h3
      have hX6 := HX5.out.below hb6 HX5.out.lt
      have hY6 := HY5.out.below hb6 HY5.out.lt
      have HB6 := Lib.hid (HB5.out.trans (hb6.mono HB5.out.size))
      have hlen := res_len hres
      have HF := Lib.hid (show Calls Tryd.prog 22 #[.slice A5 acc.length c5, .slice A6 acc.length c6] W6 fun e w' => e = .returned (.int .i64 (-1)) ∧ Below W6.heap.size W6 w' from by
        have h := refFirst_any (w := W6) A5 A6 c5 c6 acc acc (HS5.out.below hb6) hS6 (by omega) (by omega)
        rw [first_self] at h
        exact h)
      clear hb6 HX5 HY5 HB5 P2 hS6 hres HS5 HRES hlen
      obtain ⟨x0, x1, x2, x3⟩ := ccells hX6
      obtain ⟨y0, y1, y2, y3⟩ := ccells hY6
      have hxl := hX6.lt
      have hyl := hY6.lt
      clear hX6 hY6
      go_wp2_with fail
      refine HF.out.mono ?_
      rintro e W7 ⟨rfl, hb7⟩
      have HB7 := Lib.hid (HB6.out.trans (hb7.mono HB6.out.size))
      clear hb7 HB6 HF x0 x1 x2 x3 y0 y1 y2 y3 hxl hyl
      go_wp2
      go_ret
      exact ⟨by first | rfl | (simp; done), HB7.out⟩
end Go.Proofs.YtpcaeggecojaeaaDoor
