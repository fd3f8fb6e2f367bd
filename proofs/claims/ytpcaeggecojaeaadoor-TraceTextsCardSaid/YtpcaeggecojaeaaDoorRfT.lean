/-
  The document's text of what is observed. Conditions: it lies, its values are words.
-/
import Derived.Test.YtpcaeggecojaeaaDoorRfR
namespace Go.Proofs.YtpcaeggecojaeaaDoor
open Go.RowKit
set_option linter.unusedVariables false
set_option linter.unusedSimpArgs false
attribute [local go_sem] Oper.semAt_some

set_option maxRecDepth 100000 in
set_option maxHeartbeats 8000000 in
theorem refText_any {w : World} (A : Option Addr) (ca : Nat) (xs : List S) (hl : xs.length ≤ 1000000) (hA : SeenAt w A xs) (hv : Vals xs) :
    Calls Tryd.prog 19 #[.slice A xs.length ca] w fun e w' => e = .returned (.tuple #[strV ((textL xs).getD []), .int .i64 (errN (textL xs))]) ∧ Below w.heap.size w w' := by
  have HA := Lib.hid (fun W (hW : Below w.heap.size w W) => hA.below hW)
  have HV := Lib.hid hv
  clear hA hv
  by_cases hlen : 10000 < xs.length
  · have hb : (10000 : Int) < (xs.length : Int) := by omega
    have hn : textL xs = none := if_neg (fun h => by have := h.1; omega)
    rw [hn]
    go_enter Tryd.func19, Tryd.ntmps19
    go_wp2
    go_ret2
    exact ⟨rfl, Below.refl _ _⟩
  have hb : ¬ (10000 : Int) < (xs.length : Int) := by omega
  obtain ⟨V, hV⟩ : ∃ V, strV ((textL xs).getD []) = V := ⟨_, rfl⟩
  obtain ⟨E, hE⟩ : ∃ E, errN (textL xs) = E := ⟨_, rfl⟩
  have HNO := Lib.hid (fun (k : Nat) (x : S) (hk : xs[k]? = some x) (hm : ¬ May x) => show V = .string ⟨#[]⟩ ∧ E = 210 from by
    have hn : textL xs = none := if_neg (fun h => hm (h.2 x (List.mem_of_getElem? hk)))
    rw [hn] at hV hE
    exact ⟨hV.symm, hE.symm⟩)
  have HYES := Lib.hid (fun (h : ∀ j, j < xs.length → ∀ x, xs[j]? = some x → May x) => show V = strV (linesL xs) ∧ E = 0 from by
    have hn : textL xs = some (linesL xs) := if_pos ⟨by omega, fun x hx => by
      obtain ⟨j, hj⟩ := List.mem_iff_getElem?.1 hx
      exact h j (List.getElem?_eq_some_iff.1 hj).1 x hj⟩
    rw [hn] at hV hE
    exact ⟨hV.symm, hE.symm⟩)
  rw [hV, hE]
  clear hV hE
  have HS0 : Hid ((⟨#[]⟩ : ByteArray).data.toList = linesL (xs.take 0)) := rfl
  have hb0 := Below.refl w.heap.size w
  go_enter Tryd.func19, Tryd.ntmps19
  go_wp2
  go_loopw [4, 5] (fun v i wr => ∃ (k : Nat) (s : ByteArray), i = .int .i64 (k : Int) ∧ v = .string s ∧ k ≤ xs.length ∧ s.size ≤ 201 * k ∧ Hid (s.data.toList = linesL (xs.take k)) ∧ Hid (∀ j, j < k → ∀ x, xs[j]? = some x → May x) ∧ Below w.heap.size w wr) (fun _ i _ => xs.length - (intOf i).toNat)
  case atStart => exact ⟨0, ⟨#[]⟩, rfl, rfl, Nat.zero_le _, Nat.zero_le _, HS0, fun j hj => absurd hj (Nat.not_lt_zero j), hb0⟩
  case round =>
    obtain ⟨k, s, rfl, rfl, hk, hsz, HS, HMY, hB⟩ := hrel
    clear HS0 hb0
    by_cases hkl : k < xs.length
    · have hka : (k : Int) < (xs.length : Int) := by omega
      have hk0 : (0 : Int) ≤ (k : Int) := by omega
      have hxe : xs[k]? = some xs[k] := List.getElem?_eq_getElem hkl
      obtain ⟨hx0, hx1⟩ := HV.out _ (List.getElem_mem hkl)
      have HTK := Lib.hid (lines_take hxe)
      have HXE := Lib.hid hxe
      obtain ⟨b, off, rfl, hbl, c0, c1, c2, c3⟩ := seen_at (HA.out _ hB) hxe
      generalize hgx : xs[k] = x at *
      have HLC := Lib.hid (fun W => refLineC (w := W) x hx0 hx1)
      have hlz : May x → (lineBy x).size ≤ 200 := fun hm => by
        unfold lineBy
        rw [if_pos hm]
        have := line_len hm hx0 hx1
        show (lineL x).toArray.size ≤ _
        simpa using this
      have hcase : (May x ∧ lineEr x = 0 ∧ (lineBy x).data.toList = lineL x) ∨ (¬ May x ∧ lineEr x = 210) := by
        by_cases hm : May x
        · exact .inl ⟨hm, if_pos hm, by unfold lineBy; rw [if_pos hm]⟩
        · exact .inr ⟨hm, if_neg hm⟩
      have HLZ := Lib.hid hlz
      have HCS := Lib.hid hcase
      obtain ⟨t, ht⟩ : ∃ t, lineBy x = t := ⟨_, rfl⟩
      obtain ⟨er, her⟩ : ∃ er, lineEr x = er := ⟨_, rfl⟩
      rw [ht, her] at HLC HCS
      rw [ht] at HLZ
      obtain ⟨p, q, c, v⟩ := x
      simp only at c0 c1 c2 c3 hx0 hx1 HLC
      clear hxe hlz hcase ht her hgx
      go_wp2_with fail
      refine (HLC.out _).mono ?_
      rintro e W1 ⟨rfl, hb1⟩
      have HB1 := Lib.hid (hB.trans (hb1.mono hB.size))
      clear hb1 hB HLC c0 c1 c2 c3
      rcases HCS.out with ⟨hm, rfl, hlt⟩ | ⟨hm, rfl⟩
      · have hz := HLZ.out hm
        have q1 : ¬ 9223372036854775807 < s.size + t.size := by omega
        have q2 : ¬ 9223372036854775807 < s.size + t.size + 1 := by omega
        have HM := Lib.hid hm
        have HNX := Lib.hid (show (s ++ t ++ ⟨#[10]⟩ : ByteArray).data.toList = linesL (xs.take (k + 1)) from by
          rw [HTK.out, ByteArray.data_append, Array.toList_append, ByteArray.data_append, Array.toList_append, HS.out, hlt])
        have HZZ := Lib.hid (show (s ++ t ++ ⟨#[10]⟩ : ByteArray).size ≤ 201 * (k + 1) from by
          rw [ByteArray.size_append, ByteArray.size_append]
          have : (⟨#[10]⟩ : ByteArray).size = 1 := rfl
          omega)
        clear hm hlt HCS HLZ
        go_wp2
        go_roundw
        case rel => exact ⟨k + 1, _, by go_num, rfl, by omega, HZZ.out, HNX, fun j hj y hy => by
            rcases Nat.lt_or_ge j k with h | h
            · exact HMY.out j h y hy
            · have e : j = k := by omega
              subst e
              rw [HXE.out] at hy
              injection hy with hy
              rw [← hy]
              exact HM.out, HB1.out⟩
        case measure => simp [intOf]; omega
      · have hno := HNO.out k _ HXE.out hm
        have HN := Lib.hid hno
        clear hno hm HCS HLZ
        go_wp2
        go_ret2
        exact ⟨by rw [HN.out.1, HN.out.2]; rfl, HB1.out⟩
    · have hkk : k = xs.length := by omega
      subst hkk
      have hy := HYES.out HMY.out
      have HY := Lib.hid hy
      have hs2 := HS.out
      rw [List.take_length] at hs2
      have HSS := Lib.hid (show (⟨(linesL xs).toArray⟩ : ByteArray) = s from ByteArray.ext (Array.toList_inj.1 (by rw [hs2])))
      clear hy hs2
      go_wp2
      go_ret2
      exact ⟨by rw [HY.out.1, HY.out.2]; unfold strV; rw [HSS.out]; rfl, hB⟩
end Go.Proofs.YtpcaeggecojaeaaDoor
