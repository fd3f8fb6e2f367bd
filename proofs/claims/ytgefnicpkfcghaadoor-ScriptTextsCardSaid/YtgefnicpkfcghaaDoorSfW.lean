/-
  The document's words of a line. No condition but the line's length.
-/
import Derived.Laws.IdiomStrings
import Derived.Test.YtgefnicpkfcghaaDoorWords
import Derived.Test.YtgefnicpkfcghaaDoorRowMem
import Derived.Test.YtgefnicpkfcghaaDoorStr3
import Derived.Deep.RegionHeld3
import Derived.Test.YtgefnicpkfcghaaDoorScT
import Derived.Test.YtgefnicpkfcghaaDoorStr5
namespace Go.Proofs.YtgefnicpkfcghaaDoor
section
open Go.RowKit
set_option linter.unusedVariables false
set_option linter.unusedSimpArgs false

def dgB (m : Nat) : ByteArray := ⟨#[UInt8.ofNat (48 + m % 10)]⟩
/-- s is what of N's digits is behind those of the number m, but its last. -/
def Behind (N m : Nat) (s : ByteArray) : Prop := Lib.decDigits N = (if m < 10 then [] else Lib.decDigits (m / 10)) ++ s.data.toList
theorem behind_start (N : Nat) : Behind N N (dgB N) := by
  unfold Behind dgB
  by_cases h : N < 10
  · rw [if_pos h, Lib.decDigits_one h, Nat.mod_eq_of_lt h]
    rfl
  · rw [if_neg h, Lib.decDigits, dif_neg h]
theorem behind_step {N m : Nat} {s : ByteArray} (h : Behind N m s) (hm : ¬ m < 10) : Behind N (m / 10) (dgB (m / 10) ++ s) := by
  unfold Behind at *
  rw [if_neg hm] at h
  rw [h]
  have e : (dgB (m / 10) ++ s).data.toList = [UInt8.ofNat (48 + m / 10 % 10)] ++ s.data.toList := by
    rw [ByteArray.data_append, Array.toList_append]
    rfl
  rw [e]
  by_cases h2 : m / 10 < 10
  · rw [if_pos h2, Lib.decDigits_one h2, Nat.mod_eq_of_lt h2]
    rfl
  · rw [if_neg h2, Lib.decDigits, dif_neg h2]
    simp
theorem behind_end {N m : Nat} {s : ByteArray} (h : Behind N m s) (hm : m < 10) : s = ⟨(Lib.decDigits N).toArray⟩ := by
  unfold Behind at h
  rw [if_pos hm, List.nil_append] at h
  exact ByteArray.ext (by rw [h])

theorem one_digit (W : World) (x : Int) (m : Nat) (hx : x = ((48 + m % 10 : Nat) : Int)) : (convert 46 9 (.slice (some ⟨W.heap.size, 0, none⟩) 1 1)).run Tryd.prog (W.alloc (.cells #[.int .u8 x] 5)) = .ok (.string (dgB m)) (W.alloc (.cells #[.int .u8 x] 5)) := by
  have h := run_convert_bytes_back (P := Tryd.prog) (W.alloc (.cells #[.int .u8 x] 5)) 46 9 5 ⟨W.heap.size, 0, none⟩ 1 [UInt8.ofNat (48 + m % 10)] Tryd.underlying46 Tryd.underlying5 Tryd.underlying9 (fun j hj => by
    have hj0 : j = 0 := by simpa using hj
    subst hj0
    rw [add_eq]
    have hb := (Blk.new W 5 #[.int .u8 x]).cell 0
    rw [hx] at hb ⊢
    have hn : (UInt8.ofNat (48 + m % 10)).toNat = 48 + m % 10 := by
      rw [UInt8.toNat_ofNat']
      omega
    simp only [List.getElem_cons_zero, hn]
    exact hb)
  exact h

theorem behind_len {N m : Nat} {s : ByteArray} (h : Behind N m s) (hN : N < 18446744073709551616) : s.size ≤ 20 := by
  have h1 := dec_len hN
  unfold Behind at h
  rw [h, List.length_append] at h1
  have e : s.size = s.data.toList.length := by rw [Array.length_toList]; rfl
  omega

set_option maxRecDepth 100000 in
set_option maxHeartbeats 2000000 in
theorem refDigits_any {w : World} (N : Nat) (hN : N < 9223372036854775808) :
    Calls Tryd.prog 31 #[.int .i64 (N : Int)] w fun e w' => e = .returned (strV (Lib.decDigits N)) ∧ Below w.heap.size w w' := by
  have hS := behind_start N
  have hN0 : (0 : Int) ≤ (N : Int) := by omega
  have hN1 : (N : Int) ≤ 9223372036854775807 := by omega
  have ht : (N : Int).tmod 10 = ((N % 10 : Nat) : Int) := by rw [Int.tmod_eq_emod_of_nonneg (by omega)]; omega
  have hcv := fun W => one_digit W (48 + (N : Int) % 10) N (by omega)
  go_enter Tryd.func31, Tryd.ntmps31
  go_wp2
  clear hcv
  have hb0 := (Below.refl w.heap.size w).alloc (Nat.le_refl _) (.cells #[.int .u8 (48 + (N : Int) % 10)] 5)
  generalize w.alloc (.cells #[.int .u8 (48 + (N : Int) % 10)] 5) = W0 at *
  go_loopw [0, 3] (fun u v wr => ∃ (m : Nat) (s : ByteArray), u = .int .i64 (m : Int) ∧ v = .string s ∧ Hid (Behind N m s) ∧ m < 9223372036854775808 ∧ Below w.heap.size w wr) (fun u _ _ => (intOf u).toNat)
  case atStart => exact ⟨N, dgB N, rfl, rfl, hS, hN, hb0⟩
  case round =>
    obtain ⟨m, s, rfl, rfl, hBe, hm, hB⟩ := hrel
    clear hS hb0 ht
    by_cases h9 : m < 10
    · have hn9 : ¬ (9 : Int) < (m : Int) := by omega
      have HE := Lib.hid (behind_end hBe.out h9)
      go_wp2
      go_ret
      exact ⟨by rw [HE.out]; rfl, hB⟩
    · have hn9 : (9 : Int) < (m : Int) := by omega
      have hm0 : (0 : Int) ≤ (m : Int) := by omega
      have hm1 : (m : Int) ≤ 9223372036854775807 := by omega
      have hcv := fun W => one_digit W (48 + (m : Int) / 10 % 10) (m / 10) (by omega)
      have HST := Lib.hid (behind_step hBe.out h9)
      have hsz : (dgB (m / 10)).size + s.size ≤ 9223372036854775807 := by
        have h1 := behind_len hBe.out (by omega)
        have h2 : (dgB (m / 10)).size = 1 := rfl
        omega
      have hB2 := hB.alloc hB.size (.cells #[.int .u8 (48 + (m : Int) / 10 % 10)] 5)
      have HB2 := Lib.hid hB2
      clear hB2 hB
      generalize dgB (m / 10) = d at *
      go_wp2
      go_roundw
      case rel => exact ⟨m / 10, d ++ s, by go_num, rfl, HST, by omega, HB2.out⟩
      case measure => simp [intOf]; omega
end
end Go.Proofs.YtgefnicpkfcghaaDoor
namespace Go.Proofs.YtgefnicpkfcghaaDoor
section
open Go.RowKit
set_option linter.unusedVariables false
set_option linter.unusedSimpArgs false

theorem pieces_snoc {c : UInt8} (h : c ≠ 32) : ∀ l : List UInt8, ∃ ini last, pieces l = ini ++ [last] ∧ pieces (l ++ [c]) = ini ++ [last ++ [c]]
  | [] => ⟨[], [], rfl, by simp [pieces, h]⟩
  | d :: r => by
    obtain ⟨ini, last, h1, h2⟩ := pieces_snoc h r
    by_cases hd : d = 32
    · subst hd
      exact ⟨[] :: ini, last, by rw [pieces_blank, h1]; rfl, by rw [List.cons_append, pieces_blank, h2]; rfl⟩
    · cases ini with
      | nil => exact ⟨[], d :: last, pieces_other hd r h1, by rw [List.cons_append]; exact pieces_other hd _ h2⟩
      | cons p ps => exact ⟨(d :: p) :: ps, last, pieces_other hd r h1, by rw [List.cons_append]; exact pieces_other hd _ h2⟩
theorem pieces_cut : ∀ l : List UInt8, pieces (l ++ [32]) = pieces l ++ [[]]
  | [] => rfl
  | d :: r => by
    have ih := pieces_cut r
    by_cases hd : d = 32
    · subst hd
      rw [List.cons_append, pieces_blank, pieces_blank, ih]
      rfl
    · obtain ⟨p, ps, hp⟩ := List.exists_cons_of_ne_nil (pieces_ne r)
      rw [hp] at ih
      rw [List.cons_append, pieces_other hd r hp, pieces_other hd _ ih]
      rfl
theorem pieces_last (l : List UInt8) : ∃ ini last, pieces l = ini ++ [last] := by
  obtain ⟨ini, last, h, _⟩ := pieces_snoc (c := 0) (by decide) l
  exact ⟨ini, last, h⟩
theorem str_app (l : List UInt8) (s : ByteArray) : (⟨l.toArray⟩ ++ s : ByteArray) = ⟨(l ++ s.data.toList).toArray⟩ := ByteArray.ext (by rw [ByteArray.data_append]; simp)
theorem ext_one (s : ByteArray) (k : Nat) (h : k < s.size) : (s.extract k (k + 1)).data.toList = [s[k]] := by
  rw [ByteArray.data_extract, Array.toList_extract, List.extract_eq_take_drop, List.drop_eq_getElem_cons (by rw [Array.length_toList]; exact h)]
  have e : k + 1 - k = 1 := by omega
  rw [e, Array.getElem_toList]
  rfl

set_option maxRecDepth 100000 in
set_option maxHeartbeats 4000000 in
theorem refWords_any {w : World} (s : ByteArray) (hs : s.size ≤ 1000000) :
    Calls Tryd.prog 35 #[.string s] w fun e w' => ∃ v, e = .returned v ∧ w'.ownsRow w.heap.size 9 1 v (pieces s.data.toList).length ((pieces s.data.toList).map strV) ∧ Below w.heap.size w w' := by
  obtain ⟨i0, hi, hz0, hz1, hz2⟩ := info_parts infoStr
  have hown0 : (w.alloc (.cells #[.string ⟨#[]⟩] 9)).ownsRow w.heap.size 9 1 (.slice (some ⟨w.heap.size, 0, none⟩) 1 1) 1 (([] ++ [[]]).map strV) := World.ownsRow_lit w #[.string ⟨#[]⟩] 1 (Nat.le_refl _) (by decide) rfl
  have hb0 := (Below.refl w.heap.size w).alloc (Nat.le_refl _) (.cells #[.string ⟨#[]⟩] 9)
  have HO0 := Lib.hid hown0
  clear hown0
  go_enter Tryd.func35, Tryd.ntmps35
  go_wp2
  go_loopw [3, 4] (fun v i wr => ∃ (k g n cap : Nat) (ini : List (List UInt8)) (last : List UInt8), i = .int .i64 (k : Int) ∧ v = .slice (some ⟨g, 0, none⟩) (n + 1) cap ∧ k ≤ s.size ∧ Hid (ini.length = n) ∧ Hid (pieces (s.data.toList.take k) = ini ++ [last]) ∧ n ≤ k ∧ last.length ≤ k ∧ Hid (wr.ownsRow w.heap.size 9 1 v (n + 1) ((ini ++ [last]).map strV)) ∧ Below w.heap.size w wr) (fun _ i _ => s.size - (intOf i).toNat)
  case atStart => exact ⟨0, w.heap.size, 0, 1, [], [], rfl, rfl, Nat.zero_le _, rfl, rfl, Nat.zero_le _, Nat.zero_le _, HO0, hb0⟩
  case round =>
    obtain ⟨k, g, n, cap, ini, last, rfl, rfl, hk, HL, HP, hnk, hlk, HO, hB⟩ := hrel
    clear HO0 hb0
    have hsl : s.data.toList.length = s.size := by rw [Array.length_toList]; rfl
    have hs1 := hB.size
    by_cases hks : k < s.size
    · have hka : (k : Int) < (s.size : Int) := by omega
      have hcs : s.data.toList[k]? = some s[k] := by rw [List.getElem?_eq_getElem (by omega), Array.getElem_toList]; rfl
      have HTK := Lib.hid (show s.data.toList.take (k + 1) = s.data.toList.take k ++ [s[k]] from by rw [List.take_add_one, hcs]; rfl)
      clear hcs hsl
      by_cases hc : s[k] = 32
      · have hcb : ((s[k].toNat : Int) == 32) = true := by rw [hc]; rfl
        have HC := Lib.hid (show pieces (s.data.toList.take (k + 1)) = (ini ++ [last]) ++ [[]] from by rw [HTK.out, hc, pieces_cut, HP.out])
        clear hc
        go_wp2_with (at_builtin; refine wpList_append_own _ rfl _ _ 52 rfl w.heap.size 9 i0 (.string ⟨#[]⟩) 1 16 Tryd.underlying52 hi hz0 hz1 hz2 rfl (by decide) _ _ _ rfl (HO.out.alloc _) ⟨wr.heap.size, 0, none⟩ 1 1 [.string ⟨#[]⟩] rfl rfl (cells_new _ _ _) (by simp [Value.oneCell']) (by unfold maxLen; omega) (by omega) (by simp; omega) ?_)
        intro v' w1 hown' hgrow _
        obtain ⟨g', cap', rfl⟩ := ownsRow_succ hown'
        have HB1 := Lib.hid (below_grown (hB.alloc hs1 _) hgrow (own_block HO.out) (by simp; omega))
        have HO1 := Lib.hid (show w1.ownsRow w.heap.size 9 1 (.slice (some ⟨g', 0, none⟩) (n + 1 + 1) cap') (n + 1 + 1) (((ini ++ [last]) ++ [[]]).map strV) from by
          have e : ((ini ++ [last]) ++ [[]]).map strV = List.map strV ini ++ [strV last, Value.string ⟨#[]⟩] := by
            rw [List.map_append, List.map_append, List.append_assoc]
            rfl
          rw [e]
          exact hown')
        have HL1 : Hid ((ini ++ [last]).length = n + 1) := by
          have := HL.out
          show _ = _
          rw [List.length_append, this]
          rfl
        clear hown' hgrow hB
        go_wp2
        go_roundw
        case rel => exact ⟨k + 1, g', n + 1, cap', ini ++ [last], [], by go_num, rfl, by omega, HL1, HC, by omega, Nat.zero_le _, HO1, HB1.out⟩
        case measure => simp [intOf]; omega
      · have hcb : ((s[k].toNat : Int) == 32) = false := by
          rw [beq_eq_false_iff_ne]
          intro h
          exact hc (UInt8.toNat_inj.1 (by show s[k].toNat = 32; omega))
        obtain ⟨ini', last', hp1, hp2⟩ := pieces_snoc hc (s.data.toList.take k)
        rw [HP.out] at hp1
        obtain ⟨e1, e2⟩ := List.append_inj' hp1 rfl
        injection e2 with e2 _
        subst e1
        subst e2
        have HC := Lib.hid (show pieces (s.data.toList.take (k + 1)) = ini ++ [last ++ [s[k]]] from by rw [HTK.out, hp2])
        obtain ⟨ls, hls⟩ : ∃ ls : ByteArray, ls = ⟨last.toArray⟩ := ⟨_, rfl⟩
        have hlz : ls.size = last.length := by rw [hls]; exact List.size_toArray
        have hc0 : wr.cell? ⟨g, n, none⟩ = some (.string ls) := by
          rw [HO.out.cellAt n (by omega), List.getElem?_map, List.getElem?_append_right (by have := HL.out; omega), show n - ini.length = 0 from by have := HL.out; omega, hls]
          rfl
        obtain ⟨cur, hg⟩ : ∃ cur, wr.heap[g]? = some (.cells cur 9 (0, 0)) := by
          rcases HO.out.2 with ⟨h', _⟩ | ⟨g2, cap2, cur, h', _, hg, _⟩
          · simp at h'
          · simp only [Value.slice.injEq, Option.some.injEq, Addr.mk.injEq, and_true, true_and] at h'
            obtain ⟨rfl, rfl⟩ := h'
            exact ⟨cur, hg⟩
        have hfz : wr.frozen? ⟨g, n, none⟩ = false := Lib.frozen_of_heap hg n
        have hgB : w.heap.size ≤ g := own_block HO.out g rfl
        have hez : (s.extract k (k + 1)).size ≤ 1 := by rw [ByteArray.size_extract]; omega
        have hcat : ls.size + (s.extract k (k + 1)).size ≤ 9223372036854775807 := by omega
        have hk1 : (k : Int) + 1 ≤ (s.size : Int) := by omega
        have HS := Lib.hid (show ((ini ++ [last]).map strV).set n (.string (ls ++ s.extract k (k + 1))) = (ini ++ [last ++ [s[k]]]).map strV from by
          rw [hls, str_app, ext_one s k hks, List.map_append, List.map_append, List.set_append_right _ _ (by rw [List.length_map]; have := HL.out; omega), show n - (ini.map strV).length = 0 from by rw [List.length_map]; have := HL.out; omega]
          rfl)
        have HO1 := Lib.hid (HO.out.stored n (.string (ls ++ s.extract k (k + 1)))).1
        rw [HS.out] at HO1
        have HB1 := Lib.hid (hB.setCell (p := ⟨g, n, none⟩) hgB (.string (ls ++ s.extract k (k + 1))))
        have hn1 : ((n + 1 : Nat) : Int) - 1 = (n : Int) := by omega
        clear hc hp1 hp2 hls hlz hg hgB HS hez
        go_wp2
        go_region
        go_wp2
        go_roundw
        case rel => exact ⟨k + 1, g, n, cap, ini, last ++ [s[k]], by go_num, rfl, by omega, HL, HC, by omega, by rw [List.length_append]; simp only [List.length_cons, List.length_nil]; omega, HO1, HB1.out.drew⟩
        case measure => simp [intOf]; omega
    · have hkk : k = s.size := by omega
      subst hkk
      have HE := Lib.hid (show pieces s.data.toList = ini ++ [last] from by
        have h := HP.out
        rw [List.take_of_length_le (by omega)] at h
        exact h)
      have hle : (ini ++ [last]).length = n + 1 := by rw [List.length_append, HL.out]; rfl
      have HLE := Lib.hid hle
      clear hle
      go_wp2
      go_ret
      exact ⟨_, rfl, by rw [HE.out, HLE.out]; exact HO.out, hB⟩
end
end Go.Proofs.YtgefnicpkfcghaaDoor
