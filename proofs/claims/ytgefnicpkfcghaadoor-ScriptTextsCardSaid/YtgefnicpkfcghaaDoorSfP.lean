/-
  What a text says, in the document's words. No condition but the text's length.
-/
import Derived.Test.YtgefnicpkfcghaaDoorSfL
import Derived.Test.YtgefnicpkfcghaaDoorScT
import Derived.Test.YtgefnicpkfcghaaDoorSfR
import Derived.Test.YtgefnicpkfcghaaDoorScW
namespace Go.Proofs.YtgefnicpkfcghaaDoor
section
open Go.RowKit
set_option linter.unusedVariables false
set_option linter.unusedSimpArgs false
attribute [local go_sem] Oper.semAt_some

set_option maxRecDepth 100000 in
set_option maxHeartbeats 8000000 in
theorem refText_any {w : World} (A : Option Addr) (ca : Nat) (xs : List O) (hl : xs.length ≤ 1000000) (hA : OpsAt w A xs) (hv : Vals xs) :
    Calls Tryd.prog 22 #[.slice A xs.length ca] w fun e w' => e = .returned (.tuple #[strV ((textL xs).getD []), .int .i64 (errO (textL xs))]) ∧ Below w.heap.size w w' := by
  have HA := Lib.hid (fun W (hW : Below w.heap.size w W) => hA.below hW)
  have HV := Lib.hid hv
  clear hA hv
  by_cases hlen : 10000 < xs.length
  · have hb : (10000 : Int) < (xs.length : Int) := by omega
    have hn : textL xs = none := if_neg (fun h => by have := h.1; omega)
    rw [hn]
    go_enter Tryd.func22, Tryd.ntmps22
    go_wp2
    go_ret2
    exact ⟨rfl, Below.refl _ _⟩
  have hb : ¬ (10000 : Int) < (xs.length : Int) := by omega
  obtain ⟨V, hV⟩ : ∃ V, strV ((textL xs).getD []) = V := ⟨_, rfl⟩
  obtain ⟨E, hE⟩ : ∃ E, errO (textL xs) = E := ⟨_, rfl⟩
  have HNO := Lib.hid (fun (k : Nat) (x : O) (hk : xs[k]? = some x) (hm : ¬ MayO x) => show V = .string ⟨#[]⟩ ∧ E = 200 from by
    have hn : textL xs = none := if_neg (fun h => hm (h.2 x (List.mem_of_getElem? hk)))
    rw [hn] at hV hE
    exact ⟨hV.symm, hE.symm⟩)
  have HYES := Lib.hid (fun (h : ∀ j, j < xs.length → ∀ x, xs[j]? = some x → MayO x) => show V = strV (linesL xs) ∧ E = 0 from by
    have hn : textL xs = some (linesL xs) := if_pos ⟨by omega, fun x hx => by
      obtain ⟨j, hj⟩ := List.mem_iff_getElem?.1 hx
      exact h j (List.getElem?_eq_some_iff.1 hj).1 x hj⟩
    rw [hn] at hV hE
    exact ⟨hV.symm, hE.symm⟩)
  rw [hV, hE]
  clear hV hE
  have HS0 : Hid ((⟨#[]⟩ : ByteArray).data.toList = linesL (xs.take 0)) := rfl
  have hb0 := Below.refl w.heap.size w
  go_enter Tryd.func22, Tryd.ntmps22
  go_wp2
  go_loopw [4, 5] (fun v i wr => ∃ (k : Nat) (s : ByteArray), i = .int .i64 (k : Int) ∧ v = .string s ∧ k ≤ xs.length ∧ s.size ≤ 1001 * k ∧ Hid (s.data.toList = linesL (xs.take k)) ∧ Hid (∀ j, j < k → ∀ x, xs[j]? = some x → MayO x) ∧ Below w.heap.size w wr) (fun _ i _ => xs.length - (intOf i).toNat)
  case atStart => exact ⟨0, ⟨#[]⟩, rfl, rfl, Nat.zero_le _, Nat.zero_le _, HS0, fun j hj => absurd hj (Nat.not_lt_zero j), hb0⟩
  case round =>
    obtain ⟨k, s, rfl, rfl, hk, hsz, HS, HMY, hB⟩ := hrel
    clear HS0 hb0
    by_cases hkl : k < xs.length
    · have hka : (k : Int) < (xs.length : Int) := by omega
      have hk0 : (0 : Int) ≤ (k : Int) := by omega
      have hxe : xs[k]? = some xs[k] := List.getElem?_eq_getElem hkl
      have hx0 := HV.out _ (List.getElem_mem hkl)
      have HTK := Lib.hid (lines_take hxe)
      have HXE := Lib.hid hxe
      obtain ⟨b, off, rfl, hbl, c0, c1, c2, c3, c4, c5, c6⟩ := op_at (HA.out _ hB) hxe
      generalize hgx : xs[k] = x at *
      have HLC := Lib.hid (fun W => refLine_any (W0 := W) x hx0)
      have hlz : MayO x → (lineBy x).size ≤ 1000 := fun hm => by
        unfold lineBy
        rw [if_pos hm]
        have := lineO_len hm hx0
        show (lineO x).toArray.size ≤ _
        simpa using this
      have hcase : (MayO x ∧ lineEr x = 0 ∧ (lineBy x).data.toList = lineO x) ∨ (¬ MayO x ∧ lineEr x = 200) := by
        by_cases hm : MayO x
        · exact .inl ⟨hm, if_pos hm, by unfold lineBy; rw [if_pos hm]⟩
        · exact .inr ⟨hm, if_neg hm⟩
      have HLZ := Lib.hid hlz
      have HCS := Lib.hid hcase
      obtain ⟨t, ht⟩ : ∃ t, lineBy x = t := ⟨_, rfl⟩
      obtain ⟨er, her⟩ : ∃ er, lineEr x = er := ⟨_, rfl⟩
      rw [ht, her] at HLC HCS
      rw [ht] at HLZ
      obtain ⟨k_, co, nn, p, s_, m, nm⟩ := x
      simp only at c0 c1 c2 c3 c4 c5 c6 HLC
      clear hxe hlz hcase ht her hgx
      go_wp2_with fail
      refine (HLC.out _).mono ?_
      rintro e W1 ⟨rfl, hb1⟩
      have HB1 := Lib.hid (hB.trans (hb1.mono hB.size))
      clear hb1 hB HLC c0 c1 c2 c3 c4 c5 c6
      rcases HCS.out with ⟨hm, rfl, hlt⟩ | ⟨hm, rfl⟩
      · have hz := HLZ.out hm
        have q1 : ¬ 9223372036854775807 < s.size + t.size := by omega
        have q2 : ¬ 9223372036854775807 < s.size + t.size + 1 := by omega
        have HM := Lib.hid hm
        have HNX := Lib.hid (show (s ++ t ++ ⟨#[10]⟩ : ByteArray).data.toList = linesL (xs.take (k + 1)) from by
          rw [HTK.out, ByteArray.data_append, Array.toList_append, ByteArray.data_append, Array.toList_append, HS.out, hlt])
        have HZZ := Lib.hid (show (s ++ t ++ ⟨#[10]⟩ : ByteArray).size ≤ 1001 * (k + 1) from by
          rw [ByteArray.size_append, ByteArray.size_append]
          have : (⟨#[10]⟩ : ByteArray).size = 1 := rfl
          omega)
        clear hm hlt HCS HLZ
        go_wp2
        go_roundw
        case rel => exact ⟨k + 1, _, by go_num, rfl, by omega, HZZ.out, HNX, fun j hj y hy => by
            rcases Nat.lt_or_ge j k with h | h
            · exact HMY.out j h y hy
            · have e : j = k := by omega
              subst e
              rw [HXE.out] at hy
              injection hy with hy
              rw [← hy]
              exact HM.out, HB1.out⟩
        case measure => simp [intOf]; omega
      · have hno := HNO.out k _ HXE.out hm
        have HN := Lib.hid hno
        clear hno hm HCS HLZ
        go_wp2
        go_ret2
        exact ⟨by rw [HN.out.1, HN.out.2]; rfl, HB1.out⟩
    · have hkk : k = xs.length := by omega
      subst hkk
      have hy := HYES.out HMY.out
      have HY := Lib.hid hy
      have hs2 := HS.out
      rw [List.take_length] at hs2
      have HSS := Lib.hid (show (⟨(linesL xs).toArray⟩ : ByteArray) = s from ByteArray.ext (Array.toList_inj.1 (by rw [hs2])))
      clear hy hs2
      go_wp2
      go_ret2
      exact ⟨by rw [HY.out.1, HY.out.2]; unfold strV; rw [HSS.out]; rfl, hB⟩
end
end Go.Proofs.YtgefnicpkfcghaaDoor
namespace Go.Proofs.YtgefnicpkfcghaaDoor
section
open Go.RowKit
set_option linter.unusedVariables false
set_option linter.unusedSimpArgs false
attribute [local go_sem] Oper.semAt_some

/-- No line ends from a on, up to b. -/
def NoE (sl : List UInt8) (a b : Nat) : Prop := ∀ j, a ≤ j → j < b → sl[j]? ≠ some 10
theorem noE_take {sl : List UInt8} {a b : Nat} (h : NoE sl a b) : ∀ c ∈ (sl.drop a).take (b - a), c ≠ 10 := by
  rintro c hc rfl
  obtain ⟨j, hj⟩ := List.mem_iff_getElem?.1 hc
  rw [List.getElem?_take] at hj
  split at hj
  · rw [List.getElem?_drop] at hj
    exact h (a + j) (by omega) (by omega) hj
  · cases hj
theorem noE_drop {sl : List UInt8} {a : Nat} (h : NoE sl a sl.length) : ∀ c ∈ sl.drop a, c ≠ 10 := by
  have h1 := noE_take h
  rwa [List.take_of_length_le (by rw [List.length_drop]; omega)] at h1
theorem lns_step {sl : List UInt8} {a k : Nat} (hN : NoE sl a k) (hak : a ≤ k) (hc : sl[k]? = some 10) : lns (sl.drop a) = ((sl.take k).drop a ++ [10]) :: lns (sl.drop (k + 1)) := by
  obtain ⟨hk, hx⟩ := List.getElem?_eq_some_iff.1 hc
  have e : sl.drop a = (sl.take k).drop a ++ 10 :: sl.drop (k + 1) := by
    have e1 : sl = sl.take k ++ 10 :: sl.drop (k + 1) := by rw [← hx, List.getElem_cons_drop, List.take_append_drop]
    conv => lhs; rw [e1]
    rw [List.drop_append_of_le_length (by rw [List.length_take]; omega)]
  rw [e]
  exact lns_cut _ (by rw [List.drop_take]; exact noE_take hN)
theorem lineS_open {l : List UInt8} (h : ∀ c ∈ l, c ≠ 10) : lineS l = none := by
  unfold lineS
  rw [if_neg]
  intro he
  unfold endsL Lib.hasSuffix at he
  rw [List.isSuffixOf_iff_suffix] at he
  obtain ⟨r, hr⟩ := he
  exact h 10 (by rw [← hr]; simp) rfl
theorem ext_segT (s : ByteArray) (a k : Nat) : (s.extract a k).data.toList = (s.data.toList.take k).drop a := by
  rw [ByteArray.data_extract, Array.toList_extract, List.extract_eq_take_drop, List.drop_take]
set_option maxRecDepth 100000 in
set_option maxHeartbeats 16000000 in
theorem refParse_any {w : World} (s : ByteArray) (hs : s.size ≤ 1000000) : Calls Tryd.prog 23 #[.string s] w (ParseOut w s.data.toList) := by
  obtain ⟨i0, hi, hz0, hz1, hz2⟩ := info_parts infoO
  obtain ⟨post, hpost⟩ : ∃ post : Ending → World → Prop, ParseOut w s.data.toList = post := ⟨_, rfl⟩
  rw [hpost]
  have HPOST := Lib.hid hpost
  clear hpost
  have hsl : s.data.toList.length = s.size := Array.length_toList
  obtain ⟨sl, hsd⟩ : ∃ sl, s.data.toList = sl := ⟨_, rfl⟩
  rw [hsd] at HPOST hsl
  have HAT := Lib.hid (fun (k : Nat) (hk : k < s.size) => show sl[k]? = some s[k] from by
    have h0 : s.data.toList.length = s.size := Array.length_toList
    rw [← hsd, List.getElem?_eq_getElem (by omega), Array.getElem_toList]; rfl)
  have HEX := Lib.hid (fun (a k : Nat) => show (s.extract a k).data.toList = (sl.take k).drop a from by rw [ext_segT, hsd])
  have HEZ := Lib.hid (fun (a k : Nat) => show (s.extract a k).size ≤ 1000000 from by rw [ByteArray.size_extract]; omega)
  have HRD := Lib.hid (fun (t : ByteArray) (ht : t.size ≤ 1000000) W => refRead_any (w := W) t ht)
  have HSL := Lib.hid hsl
  have hb0 := Below.refl w.heap.size w
  have HO0 : Hid (OwnO w w.heap.size (.slice none 0 0) []) := World.ownsRow_nil _ _ _ _
  clear hsd hsl
  go_enter Tryd.func23, Tryd.ntmps23
  go_wp2_with fail
  go_loopw [5, 6, 7, 8] (fun o u v i wr => ∃ (n a k : Nat) (acc : List O) (done : List (List UInt8)), u = .int .i64 (n : Int) ∧ v = .int .i64 (a : Int) ∧ i = .int .i64 (k : Int) ∧ n ≤ 10000 ∧ n ≤ k ∧ a ≤ k ∧ k ≤ s.size ∧ acc.length = n ∧ Hid (lns sl = done ++ lns (sl.drop a)) ∧ Hid (done.length = n) ∧ Hid (done.map lineS = acc.map some) ∧ Hid (NoE sl a k) ∧ Hid (OwnO wr w.heap.size o acc) ∧ Below w.heap.size w wr) (fun _ _ _ i _ => s.size - (intOf i).toNat)
  case atStart => exact ⟨0, 0, 0, [], [], rfl, rfl, rfl, by omega, by omega, by omega, by omega, rfl, rfl, rfl, rfl, fun j h1 h2 => absurd h2 (Nat.not_lt_zero j), HO0, hb0⟩
  case round =>
    obtain ⟨n, a, k, acc, done, rfl, rfl, rfl, hn, hnk, hak, hk, hacc, HLN, HDN, HDM, HNO, HO, hB⟩ := hrel
    clear HO0 hb0
    have hs1 := hB.size
    by_cases hks : k < s.size
    · have hka : (k : Int) < (s.size : Int) := by omega
      have hk0 : (0 : Int) ≤ (k : Int) := by omega
      have HC := Lib.hid (HAT.out k hks)
      by_cases hc : s[k] = 10
      · have hb : ((s[k].toNat : Int) != 10) = false := by rw [hc]; rfl
        have hst := lns_step HNO.out hak (by rw [HC.out, hc])
        rw [← HEX.out a k] at hst
        have HST := Lib.hid hst
        have HRR := Lib.hid (HRD.out (s.extract a k) (HEZ.out a k))
        have ha0 : (0 : Int) ≤ (a : Int) := by omega
        have hak2 : (a : Int) ≤ (k : Int) := by omega
        have hks2 : (k : Int) ≤ (s.size : Int) := by omega
        obtain ⟨rd, hrd⟩ : ∃ rd, readO (s.extract a k).data.toList = rd := ⟨_, rfl⟩
        rw [hrd] at HRR
        have HLS := Lib.hid (show lineS ((s.extract a k).data.toList ++ [10]) = rd from by rw [lineS_end, hrd])
        obtain ⟨k_, co, nn, p, s_, m, nm, hsa⟩ : ∃ (k_ co nn p s_ m : Int) (nm : ByteArray), opA rd = #[.int .i64 k_, .int .i64 co, .int .i64 nn, .int .i64 p, .int .i64 s_, .int .u32 m, .string nm] := by
          cases rd with
          | none => exact ⟨0, 0, 0, 0, 0, 0, ⟨#[]⟩, rfl⟩
          | some y => exact ⟨y.k, y.co, y.n, y.p, y.s, y.m, y.w, rfl⟩
        rw [hsa] at HRR
        have hcase : (errO rd = 200 ∧ rd = none) ∨ (errO rd = 0 ∧ rd = some ⟨k_, co, nn, p, s_, m, nm⟩) := by
          cases rd with
          | none => exact .inl ⟨rfl, rfl⟩
          | some y =>
            refine .inr ⟨rfl, ?_⟩
            have h : #[Value.int .i64 y.k, .int .i64 y.co, .int .i64 y.n, .int .i64 y.p, .int .i64 y.s, .int .u32 y.m, .string y.w] = #[Value.int .i64 k_, .int .i64 co, .int .i64 nn, .int .i64 p, .int .i64 s_, .int .u32 m, .string nm] := hsa
            simp only [Array.mk.injEq, List.cons.injEq, Value.int.injEq, Value.string.injEq, and_true, true_and] at h
            obtain ⟨h1, h2, h3, h4, h5, h6, h7⟩ := h
            cases y
            simp only at h1 h2 h3 h4 h5 h6 h7
            subst h1 h2 h3 h4 h5 h6 h7
            rfl
        obtain ⟨er, her⟩ : ∃ er, errO rd = er := ⟨_, rfl⟩
        rw [her] at HRR hcase
        have HCS := Lib.hid hcase
        clear hst hrd hsa hcase her HAT HEX HEZ HRD hc
        go_wp2_with fail
        refine (HRR.out _).mono ?_
        rintro e W1 ⟨rfl, hb1⟩
        have hB1 := Below.alloc (hB.trans (hb1.mono hB.size)) (Nat.le_trans hB.size hb1.size) (.cells #[.int .i64 k_, .int .i64 co, .int .i64 nn, .int .i64 p, .int .i64 s_, .int .u32 m, .string nm] 24)
        have hX1 := Blk.new W1 24 #[.int .i64 k_, .int .i64 co, .int .i64 nn, .int .i64 p, .int .i64 s_, .int .u32 m, .string nm]
        have hO1 := ownsRow_below (ownsRow_below HO.out hb1) (Below.alloc (Below.refl _ W1) (Nat.le_refl _) (.cells #[.int .i64 k_, .int .i64 co, .int .i64 nn, .int .i64 p, .int .i64 s_, .int .u32 m, .string nm] 24))
        clear hb1 hB HRR HO
        have HB1 := Lib.hid hB1
        have HX1 := Lib.hid hX1
        have HO1 := Lib.hid hO1
        clear hB1 hO1
        have hx1c := ocells hX1
        clear hX1
        rcases HCS.out with ⟨rfl, rfl⟩ | ⟨rfl, rfl⟩
        · go_wp2
          go_ret3
          rw [← HPOST.out]
          refine .inr ⟨n, rfl, hn, ⟨acc, ?_⟩, ⟨_, ?_, .inl HLS.out⟩, HB1.out⟩
          · rw [HLN.out, ← HDN.out, List.take_left]
            exact HDM.out
          · rw [HLN.out, ← HDN.out, HST.out, List.getElem?_append_right (Nat.le_refl _), Nat.sub_self]
            rfl
        · by_cases hn1 : n < 10000
          · have hnb : ¬ (10000 : Int) < (n : Int) + 1 := by omega
            clear hx1c
            have hs2 := HB1.out.size
            go_upto_region 12 with (fail)
            have hX9 := HX1.out
            have hO9 := HO1.out
            have hB9 := HB1.out
            generalize W1.alloc (.cells #[.int .i64 k_, .int .i64 co, .int .i64 nn, .int .i64 p, .int .i64 s_, .int .u32 m, .string nm] 24) = V1 at *
            generalize W1.heap.size = b1 at *
            obtain ⟨x0, x1, x2, x3, x4, x5, x6⟩ := ocells hX9
            have hxl := hX9.lt
            have hown0 : V1.ownsRow w.heap.size 24 7 _ acc.length (acc.flatMap O.cells) := hO9
            have HO9 := Lib.hid hO9
            have HB9 := Lib.hid hB9
            have HDN2 := Lib.hid (show (done ++ [(s.extract a k).data.toList ++ [10]]).length = n + 1 from by rw [List.length_append, HDN.out]; rfl)
            have HLN2 := Lib.hid (show lns sl = (done ++ [(s.extract a k).data.toList ++ [10]]) ++ lns (sl.drop (k + 1)) from by rw [HLN.out, HST.out, List.append_assoc]; rfl)
            have HDM2 := Lib.hid (show (done ++ [(s.extract a k).data.toList ++ [10]]).map lineS = (acc ++ [(⟨k_, co, nn, p, s_, m, nm⟩ : O)]).map some from by rw [List.map_append, List.map_append, HDM.out, List.map_cons, HLS.out]; rfl)
            have hal : acc.length = n := hacc
            clear hX9 hO9 hB9 HX1 HO1 HB1 HCS HST HLS HLN HDN HDM HNO HC
            go_wp2_with (at_builtin; refine wpList_append_own _ rfl _ _ 37 rfl w.heap.size 24 i0 _ 7 64 Tryd.underlying37 hi hz0 hz1 hz2 rfl (by decide) _ _ _ rfl (hown0.alloc _) ⟨V1.heap.size, 0, none⟩ 1 1 (O.cells ⟨k_, co, nn, p, s_, m, nm⟩) rfl rfl (cells_new _ _ _) (by simp [O.cells, Value.oneCell']) (by unfold maxLen; omega) (by omega) (by simp; omega) ?_; intro v' w1 hown' hgrow _)
            have HOZ := Lib.hid (ownO_snoc (x := (⟨k_, co, nn, p, s_, m, nm⟩ : O)) hown')
            have HBZ := Lib.hid (below_grown (HB9.out.alloc hs2 _) hgrow (own_block HO9.out) (by simp; omega))
            clear hown' hgrow hown0 x0 x1 x2 x3 x4 x5 x6
            go_wp2
            go_roundw
            case rel => exact ⟨n + 1, k + 1, k + 1, acc ++ [⟨k_, co, nn, p, s_, m, nm⟩], _, by go_num, by go_num, by go_num, by omega, by omega, by omega, by omega, by rw [List.length_append, hal]; rfl, HLN2, HDN2, HDM2, fun j h1 h2 => absurd h2 (by omega), HOZ, HBZ.out⟩
            case measure => simp [intOf]; omega
          · have hnb : (10000 : Int) < (n : Int) + 1 := by omega
            go_wp2
            go_ret3
            rw [← HPOST.out]
            refine .inr ⟨n, rfl, hn, ⟨acc, ?_⟩, ⟨(s.extract a k).data.toList ++ [10], ?_, .inr (by omega)⟩, HB1.out⟩
            · rw [HLN.out, ← HDN.out, List.take_left]
              exact HDM.out
            · rw [HLN.out, ← HDN.out, HST.out, List.getElem?_append_right (Nat.le_refl _), Nat.sub_self]
              rfl
      · have hb : ((s[k].toNat : Int) != 10) = true := by
          rw [bne_iff_ne]
          intro h
          exact hc (UInt8.toNat_inj.1 (by rw [show (10 : UInt8).toNat = 10 from rfl]; omega))
        have hno : NoE sl a (k + 1) := fun j h1 h2 => by
          rcases Nat.lt_or_ge j k with h | h
          · exact HNO.out j h1 h
          · have e : j = k := by omega
            subst e
            rw [HC.out]
            intro e
            exact hc (Option.some.inj e)
        have HN2 := Lib.hid hno
        clear hno HAT HEX HEZ HRD hc
        go_wp2
        go_roundw
        case rel => exact ⟨n, a, k + 1, acc, done, rfl, rfl, by go_num, hn, by omega, by omega, by omega, hacc, HLN, HDN, HDM, HN2, HO, hB⟩
        case measure => simp [intOf]; omega
    · have hkk : k = s.size := by omega
      subst hkk
      clear HAT HEX HEZ HRD
      by_cases ha : a < s.size
      · have hab : (a : Int) < (s.size : Int) := by omega
        have HE := Lib.hid (noE_drop (by rw [HSL.out]; exact HNO.out))
        have HNE := Lib.hid (show sl.drop a ≠ [] from fun h => by
          have := congrArg List.length h
          rw [List.length_drop, HSL.out] at this
          simp at this
          omega)
        go_wp2
        go_ret3
        rw [← HPOST.out]
        refine .inr ⟨n, rfl, hn, ⟨acc, ?_⟩, ⟨sl.drop a, ?_, .inl (lineS_open HE.out)⟩, hB⟩
        · rw [HLN.out, ← HDN.out, List.take_left]
          exact HDM.out
        · rw [HLN.out, ← HDN.out, lns_none HE.out HNE.out, List.getElem?_append_right (Nat.le_refl _), Nat.sub_self]
          rfl
      · have hab : ¬ (a : Int) < (s.size : Int) := by omega
        have HLL := Lib.hid (show lns sl = done from by
          rw [HLN.out, List.drop_eq_nil_of_le (by rw [HSL.out]; omega)]
          show done ++ [] = done
          rw [List.append_nil])
        go_wp2
        go_ret3
        rw [← HPOST.out]
        exact .inl ⟨_, acc, rfl, HO.out, by rw [HLL.out]; exact HDM.out, by rw [HLL.out, HDN.out]; exact hn, hB⟩
end
end Go.Proofs.YtgefnicpkfcghaaDoor
