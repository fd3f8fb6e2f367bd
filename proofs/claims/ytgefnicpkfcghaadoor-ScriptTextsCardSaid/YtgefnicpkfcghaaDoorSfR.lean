/-
  What a line says, in the document's words. No condition but the line's length.
-/
import Derived.Deep.CutRange
import Derived.BigQuiet
import Derived.IntWalk
import Derived.Test.YtgefnicpkfcghaaDoorSfW
import Derived.Test.YtgefnicpkfcghaaDoorSfL
import Derived.Test.YtgefnicpkfcghaaDoorSfQ
import Derived.Test.YtgefnicpkfcghaaDoorSc7
namespace Go.Proofs.YtgefnicpkfcghaaDoor
open Go.RowKit
set_option linter.unusedVariables false
set_option linter.unusedSimpArgs false
attribute [local go_sem] Oper.semAt_some

theorem grown_set (W : World) (p : Addr) (u : Value) : W.grownBy (W.setCell p u) (some p.block) :=
  ⟨rfl, rfl, rfl, (KeepsWalks.setCell W _ u).size, fun k _ hk => Below.heap_setCell _ _ _ k (fun e => hk (by rw [e]))⟩
theorem own_sliceP {w : World} {base : Nat} {t : TypeId} {s : Nat} {v : Value} {n : Nat} {cs : List Value} (h : w.ownsRow base t s v n cs) (h0 : 0 < n) : ∃ g cap, v = .slice (some ⟨g, 0, none⟩) n cap ∧ n ≤ cap := by
  rcases h.2 with ⟨_, hz⟩ | ⟨g, cap, cur, hv, _, _, hnc, _⟩
  · omega
  · exact ⟨g, cap, hv, hnc⟩
theorem own_word {w : World} {base g n cap : Nat} {L : List (List UInt8)} (h : w.ownsRow base 9 1 (.slice (some ⟨g, 0, none⟩) n cap) n (L.map strV)) (hn : n = L.length) {j : Nat} (hj : j < n) : w.cell? ⟨g, j, none⟩ = some (.string ⟨(L.getD j []).toArray⟩) := by
  have h1 := h.cellAt j (by omega)
  rw [h1, List.getElem?_map, List.getElem?_eq_getElem (show j < L.length by omega), List.getD_eq_getElem?_getD, List.getElem?_eq_getElem (show j < L.length by omega)]
  rfl
theorem blk_ne {w : World} {g b : Nat} {t : TypeId} {cs : Array Value} {x : ByteArray} {k : Int} (h : w.cell? ⟨g, 0, none⟩ = some (.string x)) (hb : Blk w b t cs) (hc : cs[0]? = some (.int .i64 k)) : g ≠ b := by
  rintro rfl
  rw [hb.cell, hc] at h
  cases h
structure QR (w : World) (bx : Nat) (v : Value) (L : List (List UInt8)) (y : O) (W : World) : Prop where
  l : W.ownsRow (w.heap.size + 1) 9 1 v L.length (L.map strV)
  r : Blk W w.heap.size 24 (zeroO 0).cells.toArray
  x : Blk W bx 24 y.cells.toArray
  b : Below w.heap.size w W
  h3 : w.heap.size < bx
  ne : 0 < L.length
section
variable {w W W' : World} {bx : Nat} {v : Value} {L : List (List UInt8)} {y : O}
theorem QR.apart (h : QR w bx v L y W) : v.ownBlock ≠ some bx ∧ v.ownBlock ≠ some w.heap.size := by
  obtain ⟨g, cap, rfl, _⟩ := own_sliceP h.l h.ne
  have hc := own_word h.l rfl h.ne
  have h1 := blk_ne hc h.x (k := y.k) rfl
  have h2 := blk_ne hc h.r (k := 0) rfl
  simp only [Value.ownBlock]
  exact ⟨by simpa using h1, by simpa using h2⟩
theorem QR.step (h : QR w bx v L y W) (hb : Below W.heap.size W W') : QR w bx v L y W' :=
  ⟨h.l.kept (grownBy_below hb) (by cases v.ownBlock <;> simp), h.r.below hb h.r.lt, h.x.below hb h.x.lt, h.b.trans (hb.mono h.b.size), h.h3, h.ne⟩
theorem QR.setX (h : QR w bx v L y W) {y' : O} {i : Nat} {u : Value} (hy : Blk (W.setCell ⟨bx, i, none⟩ u) bx 24 y'.cells.toArray) : QR w bx v L y' (W.setCell ⟨bx, i, none⟩ u) :=
  ⟨h.l.kept (grown_set W ⟨bx, i, none⟩ u) (.inr h.apart.1), h.r.far (by have := h.h3; dsimp only; omega) _, hy, h.b.setCell (by have := h.h3; dsimp only; omega) _, h.h3, h.ne⟩
theorem QR.grown (h : QR w bx v L y W) {v' : Value} {L' : List (List UInt8)} (hl : W'.ownsRow (w.heap.size + 1) 9 1 v' L'.length (L'.map strV)) (hg : W.grownBy W' v.ownBlock) (hn : 0 < L'.length) : QR w bx v' L' y W' :=
  ⟨hl, (hg.block _ h.r.lt (fun e => h.apart.2 e.symm)).trans h.r, (hg.block _ h.x.lt (fun e => h.apart.1 e.symm)).trans h.x,
    ⟨hg.os.trans h.b.os, hg.tape.trans h.b.tape, hg.output.trans h.b.output, Nat.le_trans h.b.size hg.size, fun k hk => (hg.block k (Nat.lt_of_lt_of_le hk h.b.size) (fun e => by have := own_block h.l k e.symm; omega)).trans (h.b.block k hk)⟩, h.h3, hn⟩
end
theorem kAtO_hit {l : List UInt8} {k : Nat} (h0 : 1 ≤ k) (h : kindW (k : Nat) = l) : kAtO l (k + 1) = k := by rw [kAtO, if_pos ⟨by omega, h⟩]
theorem kAtO_miss {l : List UInt8} {k : Nat} (h : kindW (k : Nat) ≠ l) : kAtO l (k + 1) = kAtO l k := by rw [kAtO, if_neg (fun hh => h hh.2)]
theorem pad_get (L : List (List UInt8)) (i : Nat) : (L ++ [[]]).getD i [] = L.getD i [] := by
  rw [List.getD_eq_getElem?_getD, List.getD_eq_getElem?_getD]
  rcases Nat.lt_or_ge i L.length with h | h
  · rw [List.getElem?_append_left h]
  · rw [List.getElem?_append_right h, List.getElem?_eq_none (l := L) h]
    cases hi : i - L.length with
    | zero => rfl
    | succ n => simp
def slLen : Value → Nat
  | .slice _ n _ => n
  | _ => 0
theorem bl_new1Q (W : World) (o : Obj) : Below W.heap.size W (W.alloc o) := (Below.refl _ _).alloc (Nat.le_refl _) o
theorem seq_trueQ {a b : ByteArray} (h : a = b) : (a.toList == b.toList) = true := by rw [h]; simp
theorem seq_falseQ {a b : ByteArray} (h : a ≠ b) : (a.toList == b.toList) = false := by
  rw [Lib.toList_data, Lib.toList_data, beq_eq_false_iff_ne]
  exact fun he => h (Go.WideShapes.bytes_inj he)
/-- What the tail makes of an operation. -/
theorem readQ_tail (s : ByteArray) (y : O) (hy : candQ (padQ s.data.toList 0) (padQ s.data.toList 1) (padQ s.data.toList 2) = some y) : (lineEr y = 0 ∧ lineBy y = s ∧ readO s.data.toList = some y) ∨ (lineEr y = 200 ∧ readO s.data.toList = none) ∨ (lineEr y = 0 ∧ lineBy y ≠ s ∧ readO s.data.toList = none) := by
  rw [readQ_eq, hy]
  unfold lineEr lineBy
  simp only
  by_cases hm : MayO y
  · by_cases he : lineO y = s.data.toList
    · refine .inl ⟨if_pos hm, ?_, if_pos ⟨hm, he⟩⟩
      rw [if_pos hm, he]
    · refine .inr (.inr ⟨if_pos hm, ?_, if_neg (fun h => he h.2)⟩)
      rw [if_pos hm]
      intro h
      exact he (by rw [← h])
  · exact .inr (.inl ⟨if_neg hm, if_neg (fun h => hm h.1)⟩)
set_option maxRecDepth 100000 in
set_option maxHeartbeats 16000000 in
theorem refRead_any {w : World} (s : ByteArray) (hs : s.size ≤ 1000000) :
    Calls Tryd.prog 13 #[.string s] w fun e w' => e = .returned (.tuple #[.agg (opA (readO s.data.toList)), .int .i64 (errO (readO s.data.toList))]) ∧ Below w.heap.size w w' := by
  obtain ⟨i0, hi, hz0, hz1, hz2⟩ := info_parts infoStr
  have HS := Lib.hid (fun W => refWords_any (w := W) s hs)
  have hwl0 : ∀ j, (⟨(padQ s.data.toList j).toArray⟩ : ByteArray).size ≤ 1000000 := fun j => by
    have h := word_len s.data.toList j
    have e : s.data.toList.length = s.size := by rw [Array.length_toList]; rfl
    have e2 : (⟨(padQ s.data.toList j).toArray⟩ : ByteArray).size = ((pieces s.data.toList).getD j []).length := by show (_ : List UInt8).toArray.size = _; simp [padQ]
    omega
  have HTL := Lib.hid (fun y => readQ_tail s y)
  have HNO := Lib.hid (fun (h : candQ (padQ s.data.toList 0) (padQ s.data.toList 1) (padQ s.data.toList 2) = none) => show readO s.data.toList = none from by rw [readQ_eq, h])
  have HRG := Lib.hid (fun y (h : candQ (padQ s.data.toList 0) (padQ s.data.toList 1) (padQ s.data.toList 2) = some y) => show RangeO y ∧ y.w.size ≤ 1000000 from by
    obtain ⟨h1, h2⟩ := candQ_range h
    have e1 : (⟨(padQ s.data.toList 1).toArray⟩ : ByteArray).size = (padQ s.data.toList 1).length := List.size_toArray
    have e2 : (⟨(padQ s.data.toList 2).toArray⟩ : ByteArray).size = (padQ s.data.toList 2).length := List.size_toArray
    have := hwl0 1
    have := hwl0 2
    exact ⟨h1, by omega⟩)
  obtain ⟨post, hpost⟩ : ∃ post : Ending → World → Prop, post = fun e w' => e = .returned (.tuple #[.agg (opA (readO s.data.toList)), .int .i64 (errO (readO s.data.toList))]) ∧ Below w.heap.size w w' := ⟨_, rfl⟩
  rw [← hpost]
  have HPOST := Lib.hid hpost
  clear hpost
  have hne : 0 < (pieces s.data.toList).length := List.length_pos_iff.2 (pieces_ne _)
  have hlen : (pieces s.data.toList).length ≤ 1000001 := by
    rw [pieces_len]
    have := List.count_le_length (a := (32 : UInt8)) (l := s.data.toList)
    have e : s.data.toList.length = s.size := by rw [Array.length_toList]; rfl
    omega
  obtain ⟨l0, hl0⟩ : ∃ l, padQ s.data.toList 0 = l := ⟨_, rfl⟩
  obtain ⟨l1, hl1⟩ : ∃ l, padQ s.data.toList 1 = l := ⟨_, rfl⟩
  obtain ⟨l2, hl2⟩ : ∃ l, padQ s.data.toList 2 = l := ⟨_, rfl⟩
  have z1 := hwl0 1
  have z2 := hwl0 2
  rw [hl1] at z1
  rw [hl2] at z2
  have V1 := Lib.hid (fun W => show Calls Tryd.prog 36 #[.string ⟨l1.toArray⟩] W fun e w' => e = .returned (.int .i64 (valO l1)) ∧ w' = W from refValue_any (w := W) _ z1)
  have V2 := Lib.hid (fun W => show Calls Tryd.prog 36 #[.string ⟨l2.toArray⟩] W fun e w' => e = .returned (.int .i64 (valO l2)) ∧ w' = W from refValue_any (w := W) _ z2)
  unfold padQ at hl0 hl1 hl2
  rw [show padQ s.data.toList 0 = l0 from hl0, show padQ s.data.toList 1 = l1 from hl1, show padQ s.data.toList 2 = l2 from hl2] at HTL HNO HRG
  obtain ⟨ws, hws⟩ : ∃ ws, pieces s.data.toList = ws := ⟨_, rfl⟩
  rw [hws] at HS hne hlen hl0 hl1 hl2
  have HL0 := Lib.hid hl0
  have HL1 := Lib.hid hl1
  have HL2 := Lib.hid hl2
  obtain ⟨N, hN⟩ : ∃ N, ws.length = N := ⟨_, rfl⟩
  have HN := Lib.hid hN
  rw [hN] at hne hlen
  have hr0 := Blk.new w 24 #[.int .i64 0, .int .i64 0, .int .i64 0, .int .i64 0, .int .i64 0, .int .u32 0, .string ⟨#[]⟩]
  have hb0 := (Below.refl w.heap.size w).alloc (Nat.le_refl _) (.cells #[.int .i64 0, .int .i64 0, .int .i64 0, .int .i64 0, .int .i64 0, .int .u32 0, .string ⟨#[]⟩] 24)
  have HR0 := Lib.hid hr0
  have HB0 := Lib.hid hb0
  clear hl0 hl1 hl2 z1 z2 hwl0 hws hN hr0 hb0
  go_enter Tryd.func13, Tryd.ntmps13
  go_wp2_with fail
  refine (HS.out _).mono ?_
  rintro e W2 ⟨v, rfl, hown, hb⟩
  have HQ := Lib.hid (show QR w W2.heap.size v ws (zeroO 0) (W2.alloc (.cells #[.int .i64 0, .int .i64 0, .int .i64 0, .int .i64 0, .int .i64 0, .int .u32 0, .string ⟨#[]⟩] 24)) from
    ⟨by
      have h := hown.alloc (.cells #[.int .i64 0, .int .i64 0, .int .i64 0, .int .i64 0, .int .i64 0, .int .u32 0, .string ⟨#[]⟩] 24)
      rw [World.size_alloc] at h
      exact h,
    (HR0.out.below hb HR0.out.lt).alloc _, Blk.new _ _ _, (HB0.out.trans (hb.mono HB0.out.size)).alloc (Nat.le_trans HB0.out.size hb.size) _, (HR0.out.below hb HR0.out.lt).lt, by rw [HN.out]; exact hne⟩)
  obtain ⟨g, cap, rfl, hcap⟩ := own_sliceP hown (by rw [HN.out]; exact hne)
  rw [HN.out] at hcap HQ ⊢
  clear hb hown HS HR0 HB0
  go_upto_region 3 with (fail)
  generalize W2.alloc (.cells #[.int .i64 0, .int .i64 0, .int .i64 0, .int .i64 0, .int .i64 0, .int .u32 0, .string ⟨#[]⟩] 24) = W3 at *
  generalize W2.heap.size = bx at *
  go_wp2_with fail
  go_loopw [6] (fun i wr => ∃ k : Nat, i = .int .i64 (k : Int) ∧ 1 ≤ k ∧ k ≤ 13 ∧ Hid (QR w bx (.slice (some ⟨g, 0, none⟩) N cap) ws (zeroO (kAtO l0 k : Nat)) wr)) (fun i _ => 13 - (intOf i).toNat)
  case atStart =>
    have e : kAtO l0 1 = 0 := by rw [kAtO, if_neg (fun h => absurd h.1 (Nat.lt_irrefl 0))]; rfl
    exact ⟨1, rfl, by omega, by omega, by rw [e]; exact HQ⟩
  case round =>
    obtain ⟨k, rfl, hk1, hk5, HR⟩ := hrel
    clear HQ
    by_cases hk : k ≤ 12
    · have hkb : (k : Int) ≤ 12 := by omega
      have HWD := Lib.hid (fun W => refKind_any (w := W) (k : Int))
      go_wp2_with fail
      refine (HWD.out _).mono ?_
      rintro e W4 ⟨rfl, hb4⟩
      have HR4 := Lib.hid (HR.out.step hb4)
      clear hb4 HR HWD
      have c0 := own_word (j := 0) (show W4.ownsRow (w.heap.size + 1) 9 1 (.slice (some ⟨g, 0, none⟩) N cap) N (ws.map strV) from by have h := HR4.out.l; rw [HN.out] at h; exact h) HN.out.symm (by omega)
      rw [HL0.out] at c0
      unfold strV
      have hN0 : (0 : Int) < (N : Int) := by omega
      by_cases hq : kindW (k : Nat) = l0
      · have hb : ((⟨(kindW (k : Nat)).toArray⟩ : ByteArray).toList == (⟨l0.toArray⟩ : ByteArray).toList) = true := by rw [hq]; simp
        obtain ⟨x0, x1, x2, x3, x4, x5, x6⟩ := ocells (show Blk W4 bx 24 #[.int .i64 (kAtO l0 k : Nat), .int .i64 0, .int .i64 0, .int .i64 0, .int .i64 0, .int .u32 0, .string ⟨#[]⟩] from HR4.out.x)
        have hfx := HR4.out.x.frozen 0
        have hlx := HR4.out.x.lt
        have HNN := Lib.hid (kAtO_hit hk1 hq)
        have HRN := Lib.hid (show QR w bx (.slice (some ⟨g, 0, none⟩) N cap) ws (zeroO (k : Nat)) (W4.setCell ⟨bx, 0, none⟩ (.int .i64 (k : Nat))) from HR4.out.setX (by have := HR4.out.x.set_ 0 (.int .i64 (k : Nat)); simpa [O.cells, zeroO] using this))
        generalize (⟨(kindW (k : Nat)).toArray⟩ : ByteArray) = sk at *
        generalize (⟨l0.toArray⟩ : ByteArray) = s0 at *
        clear hq HR4
        go_wp2
        go_roundw
        case rel => exact ⟨k + 1, by go_num, by omega, by omega, by rw [HNN.out]; exact HRN⟩
        case measure => simp [intOf]; omega
      · have hb : ((⟨(kindW (k : Nat)).toArray⟩ : ByteArray).toList == (⟨l0.toArray⟩ : ByteArray).toList) = false := by
          rw [beq_eq_false_iff_ne]
          intro h
          rw [Lib.toList_data, Lib.toList_data] at h
          exact hq h
        have HNN := Lib.hid (kAtO_miss hq)
        generalize (⟨(kindW (k : Nat)).toArray⟩ : ByteArray) = sk at *
        generalize (⟨l0.toArray⟩ : ByteArray) = s0 at *
        clear hq
        go_wp2
        go_roundw
        case rel => exact ⟨k + 1, by go_num, by omega, by omega, by rw [HNN.out]; exact HR4⟩
        case measure => simp [intOf]; omega
    · have hk' : k = 13 := by omega
      have hkb : ¬ (k : Int) ≤ 12 := by omega
      rw [hk'] at HR
      clear hk hk1 hk5 hk'
      have hcN : (N : Int) ≤ (cap : Int) := by omega
      go_wp2_with fail
      obtain ⟨K, hK0⟩ : ∃ K, kAtO l0 13 = K := ⟨_, rfl⟩
      have HKK := Lib.hid hK0
      have HK := Lib.hid (show kAtO l0 13 < 13 from (kAtO_val l0).1)
      have HQ0 : Hid (QR w bx (.slice (some ⟨g, 0, none⟩) N cap) ws (zeroO (kAtO l0 13 : Nat)) wr) := HR
      clear HR hK0
      go_loopw [4] (fun o wr => ∃ (g n c : Nat) (L : List (List UInt8)), o = .slice (some ⟨g, 0, none⟩) n c ∧ Hid (L.length = n) ∧ n ≤ c ∧ n ≤ 1000003 ∧ 1 ≤ n ∧ Hid (∀ i, L.getD i [] = ws.getD i []) ∧ Hid (QR w bx (.slice (some ⟨g, 0, none⟩) n c) L (zeroO (kAtO l0 13 : Nat)) wr)) (fun o _ => 3 - slLen o)
      case atStart => exact ⟨g, N, cap, ws, rfl, HN, hcap, by omega, by omega, fun i => rfl, HQ0⟩
      case round =>
        obtain ⟨g', n, c, L, rfl, HLN, hnc, hn3, hn1, HG, HQ6⟩ := hrel
        clear HQ0
        by_cases hn : n < 3
        · have hnb : (n : Int) < 3 := by omega
          have hown0 := HQ6.out.l
          rw [HLN.out] at hown0
          have hsz := HQ6.out.b.size
          have hbs := HQ6.out.x.lt
          have hb3 := HQ6.out.h3
          go_wp2_with (at_builtin; refine wpList_append_own _ rfl _ _ 52 rfl (w.heap.size + 1) 9 i0 (.string ⟨#[]⟩) 1 16 Tryd.underlying52 hi hz0 hz1 hz2 rfl (by decide) _ _ _ rfl (hown0.alloc _) ⟨wr.heap.size, 0, none⟩ 1 1 [.string ⟨#[]⟩] rfl rfl (cells_new _ _ _) (by simp [Value.oneCell']) (by unfold maxLen; omega) (by omega) (by simp; omega) ?_; intro v' w1 hown' hgrow _)
          have hQ7 := HQ6.out.step (bl_new1Q _ (.cells #[.string ⟨#[]⟩] 9))
          have hl7 : w1.ownsRow (w.heap.size + 1) 9 1 v' (L ++ [[]]).length ((L ++ [[]]).map strV) := by
            rw [List.length_append, HLN.out, List.map_append]
            exact hown'
          obtain ⟨g7, c7, rfl, hc7⟩ := own_sliceP hl7 (by rw [List.length_append]; simp)
          have hQ8 := hQ7.grown hl7 hgrow (by rw [List.length_append]; simp)
          have hlen8 : (L ++ [[]]).length = n + 1 := by rw [List.length_append, HLN.out]; rfl
          rw [hlen8] at hc7 hQ8
          have HQ8 := Lib.hid hQ8
          have HL8 := Lib.hid hlen8
          have HG8 := Lib.hid (show ∀ i, (L ++ [[]]).getD i [] = ws.getD i [] from fun i => by rw [pad_get]; exact HG.out i)
          rw [hlen8]
          clear hown' hgrow hown0 hQ7 hl7 hQ8 hlen8
          go_wp2
          go_roundw
          case rel => exact ⟨g7, n + 1, c7, L ++ [[]], rfl, HL8, hc7, by omega, by omega, HG8, HQ8⟩
          case measure => simp [slLen]; omega
        · have hnb : ¬ (n : Int) < 3 := by omega
          have hown0 := HQ6.out.l
          rw [HLN.out] at hown0
          have c1 := own_word (j := 1) hown0 HLN.out.symm (by omega)
          have c2 := own_word (j := 2) hown0 HLN.out.symm (by omega)
          rw [HG.out, HL1.out] at c1
          rw [HG.out, HL2.out] at c2
          have hn1b : (1 : Int) < (n : Int) := by omega
          have hn2b : (2 : Int) < (n : Int) := by omega
          obtain ⟨A, hA⟩ : ∃ A, valO l1 = A := ⟨_, rfl⟩
          obtain ⟨B, hB⟩ : ∃ B, valO l2 = B := ⟨_, rfl⟩
          have hAr := valO_range l1
          have hBr := valO_range l2
          rw [hA] at V1 hAr
          rw [hB] at V2 hBr
          clear hown0
          rename World => wr6
          have hkk := HK.out
          have hkc : kAtO l0 13 = 0 ∨ kAtO l0 13 = 1 ∨ kAtO l0 13 = 2 ∨ kAtO l0 13 = 3 ∨ kAtO l0 13 = 4 ∨ kAtO l0 13 = 5 ∨ kAtO l0 13 = 6 ∨ kAtO l0 13 = 7 ∨ kAtO l0 13 = 8 ∨ kAtO l0 13 = 9 ∨ kAtO l0 13 = 10 ∨ kAtO l0 13 = 11 ∨ kAtO l0 13 = 12 := by omega
          clear hkk
          have HKC := Lib.hid hkc
          have HAA := Lib.hid hA
          have HBB := Lib.hid hB
          clear hkc hA hB
          go_wp2_with fail
          refine (V1.out _).mono ?_
          rintro e w6 ⟨rfl, hw6⟩
          have hw6 := hw6.symm
          subst hw6
          go_wp2_with fail
          refine (V2.out _).mono ?_
          rintro e w7 ⟨rfl, hw7⟩
          have hw7 := hw7.symm
          subst hw7
          go_upto_region 13 with (fail)
          have hA := HAA.out
          have hB := HBB.out
          clear V1 V2 HAA HBB
          rcases HKC.out with hK | hK | hK | hK | hK | hK | hK | hK | hK | hK | hK | hK | hK
          · have hcq := candQ_k0 (l1 := l1) (l2 := l2) hK
            skip
            rw [hK] at HQ6
            have HCQ := Lib.hid hcq
            clear hcq hK
            have hx6 : Blk wr6 bx 24 #[.int .i64 0, .int .i64 0, .int .i64 0, .int .i64 0, .int .i64 0, .int .u32 0, .string ⟨#[]⟩] := HQ6.out.x
            obtain ⟨x0, x1, x2, x3, x4, x5, x6⟩ := ocells hx6
            have hlx := hx6.lt
            have HQ := Lib.hid (show QR w bx _ L ⟨0, 0, 0, 0, 0, 0, ⟨#[]⟩⟩ wr6 from HQ6.out)
            go_upto_region 40 with (fail)
            clear x0 x1 x2 x3 x4 x5 x6 hlx hx6
            generalize wr6 = WQ at *
            have HY := Lib.hid (HCQ.out)
            have hrg := HRG.out _ HY.out
            have HL := Lib.hid (fun W => refLine_any (W0 := W) ⟨0, 0, 0, 0, 0, 0, ⟨#[]⟩⟩ hrg.1)
            have hcs := HTL.out _ HY.out
            obtain ⟨tb, htb⟩ : ∃ tb, lineBy ⟨0, 0, 0, 0, 0, 0, ⟨#[]⟩⟩ = tb := ⟨_, rfl⟩
            obtain ⟨te, hte⟩ : ∃ te, lineEr ⟨0, 0, 0, 0, 0, 0, ⟨#[]⟩⟩ = te := ⟨_, rfl⟩
            rw [htb, hte] at HL hcs
            simp only at HL
            have HCS := Lib.hid hcs
            clear hcs htb hte HY HTL HNO HRG hrg
            obtain ⟨x0, x1, x2, x3, x4, x5, x6⟩ := ocells (show Blk WQ bx 24 #[.int .i64 0, .int .i64 0, .int .i64 0, .int .i64 0, .int .i64 0, .int .u32 0, .string ⟨#[]⟩] from HQ.out.x)
            have hlx := HQ.out.x.lt
            go_wp2_with fail
            refine (HL.out _).mono ?_
            rintro e W8 ⟨rfl, hb8⟩
            have HR8 := Lib.hid (HQ.out.step hb8)
            clear hb8 HQ HL x0 x1 x2 x3 x4 x5 x6 hlx
            obtain ⟨x0, x1, x2, x3, x4, x5, x6⟩ := ocells (show Blk W8 bx 24 #[.int .i64 0, .int .i64 0, .int .i64 0, .int .i64 0, .int .i64 0, .int .u32 0, .string ⟨#[]⟩] from HR8.out.x)
            obtain ⟨r0, r1, r2, r3, r4, r5, r6⟩ := ocells (show Blk W8 w.heap.size 24 #[.int .i64 0, .int .i64 0, .int .i64 0, .int .i64 0, .int .i64 0, .int .u32 0, .string ⟨#[]⟩] from HR8.out.r)
            have hlx := HR8.out.x.lt
            have hlr := HR8.out.r.lt
            have g0 := HR8.out.r.frozen 0
            have g1 := HR8.out.r.frozen 1
            have g2 := HR8.out.r.frozen 2
            have g3 := HR8.out.r.frozen 3
            have g4 := HR8.out.r.frozen 4
            have g5 := HR8.out.r.frozen 5
            have g6 := HR8.out.r.frozen 6
            have HRB := Lib.hid (show Blk W8 w.heap.size 24 #[.int .i64 0, .int .i64 0, .int .i64 0, .int .i64 0, .int .i64 0, .int .u32 0, .string ⟨#[]⟩] from HR8.out.r)
            rcases HCS.out with ⟨rfl, heq, hrd⟩ | ⟨rfl, hrd⟩ | ⟨rfl, heq, hrd⟩
            · have hb := seq_trueQ heq
              have HF := Lib.hid hrd
              clear HCS heq hrd
              go_wp2
              exact bodyPost_ret (results_row_tmp Tryd.results13 _ rfl (set7_blk HRB.out _ _ _ _ _ _ _) Tryd.underlying24 rfl (by kernel_rfl)) rfl (by rw [HPOST.out, HF.out]; exact ⟨rfl, set7_below HR8.out.b (Nat.le_refl _) _ _ _ _ _ _ _⟩)
            · have HF := Lib.hid hrd
              clear HCS hrd
              go_wp2
              exact bodyPost_ret (results_row_tmp Tryd.results13 _ rfl (set7_blk HRB.out _ _ _ _ _ _ _) Tryd.underlying24 rfl (by kernel_rfl)) rfl (by rw [HPOST.out, HF.out]; exact ⟨rfl, set7_below HR8.out.b (Nat.le_refl _) _ _ _ _ _ _ _⟩)
            · have hb := seq_falseQ heq
              have HF := Lib.hid hrd
              clear HCS heq hrd
              go_wp2
              exact bodyPost_ret (results_row_tmp Tryd.results13 _ rfl (set7_blk HRB.out _ _ _ _ _ _ _) Tryd.underlying24 rfl (by kernel_rfl)) rfl (by rw [HPOST.out, HF.out]; exact ⟨rfl, set7_below HR8.out.b (Nat.le_refl _) _ _ _ _ _ _ _⟩)
          · have hcq := candQ_k1 (l1 := l1) (l2 := l2) hK
            simp only [hA, hB] at hcq
            rw [hK] at HQ6
            have HCQ := Lib.hid hcq
            clear hcq hK
            have hx6 : Blk wr6 bx 24 #[.int .i64 1, .int .i64 0, .int .i64 0, .int .i64 0, .int .i64 0, .int .u32 0, .string ⟨#[]⟩] := HQ6.out.x
            obtain ⟨x0, x1, x2, x3, x4, x5, x6⟩ := ocells hx6
            have hlx := hx6.lt
            have f1 := hx6.frozen 1
            have f2 := hx6.frozen 2
            have hq0 : QR w bx _ L ⟨1, A, 0, 0, 0, 0, ⟨#[]⟩⟩ (wr6.setCell ⟨bx, 1, none⟩ (.int .i64 A)) := (HQ6.out).setX (by have := (HQ6.out).x.set_ 1 (.int .i64 A); simpa [O.cells, zeroO] using this)
            have hq1 : QR w bx _ L ⟨1, A, B, 0, 0, 0, ⟨#[]⟩⟩ ((wr6.setCell ⟨bx, 1, none⟩ (.int .i64 A)).setCell ⟨bx, 2, none⟩ (.int .i64 B)) := (hq0).setX (by have := (hq0).x.set_ 2 (.int .i64 B); simpa [O.cells, zeroO] using this)
            have HQ := Lib.hid (show QR w bx _ L ⟨1, A, B, 0, 0, 0, ⟨#[]⟩⟩ ((wr6.setCell ⟨bx, 1, none⟩ (.int .i64 A)).setCell ⟨bx, 2, none⟩ (.int .i64 B)) from hq1)
            clear hq0 hq1
            go_upto_region 40 with (fail)
            clear x0 x1 x2 x3 x4 x5 x6 hlx hx6 f1 f2
            generalize ((wr6.setCell ⟨bx, 1, none⟩ (.int .i64 A)).setCell ⟨bx, 2, none⟩ (.int .i64 B)) = WQ at *
            have HY := Lib.hid (HCQ.out)
            have hrg := HRG.out _ HY.out
            have HL := Lib.hid (fun W => refLine_any (W0 := W) ⟨1, A, B, 0, 0, 0, ⟨#[]⟩⟩ hrg.1)
            have hcs := HTL.out _ HY.out
            obtain ⟨tb, htb⟩ : ∃ tb, lineBy ⟨1, A, B, 0, 0, 0, ⟨#[]⟩⟩ = tb := ⟨_, rfl⟩
            obtain ⟨te, hte⟩ : ∃ te, lineEr ⟨1, A, B, 0, 0, 0, ⟨#[]⟩⟩ = te := ⟨_, rfl⟩
            rw [htb, hte] at HL hcs
            simp only at HL
            have HCS := Lib.hid hcs
            clear hcs htb hte HY HTL HNO HRG hrg
            obtain ⟨x0, x1, x2, x3, x4, x5, x6⟩ := ocells (show Blk WQ bx 24 #[.int .i64 1, .int .i64 A, .int .i64 B, .int .i64 0, .int .i64 0, .int .u32 0, .string ⟨#[]⟩] from HQ.out.x)
            have hlx := HQ.out.x.lt
            go_wp2_with fail
            refine (HL.out _).mono ?_
            rintro e W8 ⟨rfl, hb8⟩
            have HR8 := Lib.hid (HQ.out.step hb8)
            clear hb8 HQ HL x0 x1 x2 x3 x4 x5 x6 hlx
            obtain ⟨x0, x1, x2, x3, x4, x5, x6⟩ := ocells (show Blk W8 bx 24 #[.int .i64 1, .int .i64 A, .int .i64 B, .int .i64 0, .int .i64 0, .int .u32 0, .string ⟨#[]⟩] from HR8.out.x)
            obtain ⟨r0, r1, r2, r3, r4, r5, r6⟩ := ocells (show Blk W8 w.heap.size 24 #[.int .i64 0, .int .i64 0, .int .i64 0, .int .i64 0, .int .i64 0, .int .u32 0, .string ⟨#[]⟩] from HR8.out.r)
            have hlx := HR8.out.x.lt
            have hlr := HR8.out.r.lt
            have g0 := HR8.out.r.frozen 0
            have g1 := HR8.out.r.frozen 1
            have g2 := HR8.out.r.frozen 2
            have g3 := HR8.out.r.frozen 3
            have g4 := HR8.out.r.frozen 4
            have g5 := HR8.out.r.frozen 5
            have g6 := HR8.out.r.frozen 6
            have HRB := Lib.hid (show Blk W8 w.heap.size 24 #[.int .i64 0, .int .i64 0, .int .i64 0, .int .i64 0, .int .i64 0, .int .u32 0, .string ⟨#[]⟩] from HR8.out.r)
            rcases HCS.out with ⟨rfl, heq, hrd⟩ | ⟨rfl, hrd⟩ | ⟨rfl, heq, hrd⟩
            · have hb := seq_trueQ heq
              have HF := Lib.hid hrd
              clear HCS heq hrd
              go_wp2
              exact bodyPost_ret (results_row_tmp Tryd.results13 _ rfl (set7_blk HRB.out _ _ _ _ _ _ _) Tryd.underlying24 rfl (by kernel_rfl)) rfl (by rw [HPOST.out, HF.out]; exact ⟨rfl, set7_below HR8.out.b (Nat.le_refl _) _ _ _ _ _ _ _⟩)
            · have HF := Lib.hid hrd
              clear HCS hrd
              go_wp2
              exact bodyPost_ret (results_row_tmp Tryd.results13 _ rfl (set7_blk HRB.out _ _ _ _ _ _ _) Tryd.underlying24 rfl (by kernel_rfl)) rfl (by rw [HPOST.out, HF.out]; exact ⟨rfl, set7_below HR8.out.b (Nat.le_refl _) _ _ _ _ _ _ _⟩)
            · have hb := seq_falseQ heq
              have HF := Lib.hid hrd
              clear HCS heq hrd
              go_wp2
              exact bodyPost_ret (results_row_tmp Tryd.results13 _ rfl (set7_blk HRB.out _ _ _ _ _ _ _) Tryd.underlying24 rfl (by kernel_rfl)) rfl (by rw [HPOST.out, HF.out]; exact ⟨rfl, set7_below HR8.out.b (Nat.le_refl _) _ _ _ _ _ _ _⟩)
          · have hcq := candQ_k2 (l1 := l1) (l2 := l2) hK
            simp only [hA, hB] at hcq
            rw [hK] at HQ6
            have HCQ := Lib.hid hcq
            clear hcq hK
            have hx6 : Blk wr6 bx 24 #[.int .i64 2, .int .i64 0, .int .i64 0, .int .i64 0, .int .i64 0, .int .u32 0, .string ⟨#[]⟩] := HQ6.out.x
            obtain ⟨x0, x1, x2, x3, x4, x5, x6⟩ := ocells hx6
            have hlx := hx6.lt
            have f1 := hx6.frozen 1
            have f3 := hx6.frozen 3
            have hq0 : QR w bx _ L ⟨2, A, 0, 0, 0, 0, ⟨#[]⟩⟩ (wr6.setCell ⟨bx, 1, none⟩ (.int .i64 A)) := (HQ6.out).setX (by have := (HQ6.out).x.set_ 1 (.int .i64 A); simpa [O.cells, zeroO] using this)
            have hq1 : QR w bx _ L ⟨2, A, 0, B, 0, 0, ⟨#[]⟩⟩ ((wr6.setCell ⟨bx, 1, none⟩ (.int .i64 A)).setCell ⟨bx, 3, none⟩ (.int .i64 B)) := (hq0).setX (by have := (hq0).x.set_ 3 (.int .i64 B); simpa [O.cells, zeroO] using this)
            have HQ := Lib.hid (show QR w bx _ L ⟨2, A, 0, B, 0, 0, ⟨#[]⟩⟩ ((wr6.setCell ⟨bx, 1, none⟩ (.int .i64 A)).setCell ⟨bx, 3, none⟩ (.int .i64 B)) from hq1)
            clear hq0 hq1
            go_upto_region 40 with (fail)
            clear x0 x1 x2 x3 x4 x5 x6 hlx hx6 f1 f3
            generalize ((wr6.setCell ⟨bx, 1, none⟩ (.int .i64 A)).setCell ⟨bx, 3, none⟩ (.int .i64 B)) = WQ at *
            have HY := Lib.hid (HCQ.out)
            have hrg := HRG.out _ HY.out
            have HL := Lib.hid (fun W => refLine_any (W0 := W) ⟨2, A, 0, B, 0, 0, ⟨#[]⟩⟩ hrg.1)
            have hcs := HTL.out _ HY.out
            obtain ⟨tb, htb⟩ : ∃ tb, lineBy ⟨2, A, 0, B, 0, 0, ⟨#[]⟩⟩ = tb := ⟨_, rfl⟩
            obtain ⟨te, hte⟩ : ∃ te, lineEr ⟨2, A, 0, B, 0, 0, ⟨#[]⟩⟩ = te := ⟨_, rfl⟩
            rw [htb, hte] at HL hcs
            simp only at HL
            have HCS := Lib.hid hcs
            clear hcs htb hte HY HTL HNO HRG hrg
            obtain ⟨x0, x1, x2, x3, x4, x5, x6⟩ := ocells (show Blk WQ bx 24 #[.int .i64 2, .int .i64 A, .int .i64 0, .int .i64 B, .int .i64 0, .int .u32 0, .string ⟨#[]⟩] from HQ.out.x)
            have hlx := HQ.out.x.lt
            go_wp2_with fail
            refine (HL.out _).mono ?_
            rintro e W8 ⟨rfl, hb8⟩
            have HR8 := Lib.hid (HQ.out.step hb8)
            clear hb8 HQ HL x0 x1 x2 x3 x4 x5 x6 hlx
            obtain ⟨x0, x1, x2, x3, x4, x5, x6⟩ := ocells (show Blk W8 bx 24 #[.int .i64 2, .int .i64 A, .int .i64 0, .int .i64 B, .int .i64 0, .int .u32 0, .string ⟨#[]⟩] from HR8.out.x)
            obtain ⟨r0, r1, r2, r3, r4, r5, r6⟩ := ocells (show Blk W8 w.heap.size 24 #[.int .i64 0, .int .i64 0, .int .i64 0, .int .i64 0, .int .i64 0, .int .u32 0, .string ⟨#[]⟩] from HR8.out.r)
            have hlx := HR8.out.x.lt
            have hlr := HR8.out.r.lt
            have g0 := HR8.out.r.frozen 0
            have g1 := HR8.out.r.frozen 1
            have g2 := HR8.out.r.frozen 2
            have g3 := HR8.out.r.frozen 3
            have g4 := HR8.out.r.frozen 4
            have g5 := HR8.out.r.frozen 5
            have g6 := HR8.out.r.frozen 6
            have HRB := Lib.hid (show Blk W8 w.heap.size 24 #[.int .i64 0, .int .i64 0, .int .i64 0, .int .i64 0, .int .i64 0, .int .u32 0, .string ⟨#[]⟩] from HR8.out.r)
            rcases HCS.out with ⟨rfl, heq, hrd⟩ | ⟨rfl, hrd⟩ | ⟨rfl, heq, hrd⟩
            · have hb := seq_trueQ heq
              have HF := Lib.hid hrd
              clear HCS heq hrd
              go_wp2
              exact bodyPost_ret (results_row_tmp Tryd.results13 _ rfl (set7_blk HRB.out _ _ _ _ _ _ _) Tryd.underlying24 rfl (by kernel_rfl)) rfl (by rw [HPOST.out, HF.out]; exact ⟨rfl, set7_below HR8.out.b (Nat.le_refl _) _ _ _ _ _ _ _⟩)
            · have HF := Lib.hid hrd
              clear HCS hrd
              go_wp2
              exact bodyPost_ret (results_row_tmp Tryd.results13 _ rfl (set7_blk HRB.out _ _ _ _ _ _ _) Tryd.underlying24 rfl (by kernel_rfl)) rfl (by rw [HPOST.out, HF.out]; exact ⟨rfl, set7_below HR8.out.b (Nat.le_refl _) _ _ _ _ _ _ _⟩)
            · have hb := seq_falseQ heq
              have HF := Lib.hid hrd
              clear HCS heq hrd
              go_wp2
              exact bodyPost_ret (results_row_tmp Tryd.results13 _ rfl (set7_blk HRB.out _ _ _ _ _ _ _) Tryd.underlying24 rfl (by kernel_rfl)) rfl (by rw [HPOST.out, HF.out]; exact ⟨rfl, set7_below HR8.out.b (Nat.le_refl _) _ _ _ _ _ _ _⟩)
          · have hcq := candQ_k3 (l1 := l1) (l2 := l2) hK
            skip
            rw [hK] at HQ6
            have HCQ := Lib.hid hcq
            clear hcq hK
            have hx6 : Blk wr6 bx 24 #[.int .i64 3, .int .i64 0, .int .i64 0, .int .i64 0, .int .i64 0, .int .u32 0, .string ⟨#[]⟩] := HQ6.out.x
            obtain ⟨x0, x1, x2, x3, x4, x5, x6⟩ := ocells hx6
            have hlx := hx6.lt
            have HQ := Lib.hid (show QR w bx _ L ⟨3, 0, 0, 0, 0, 0, ⟨#[]⟩⟩ wr6 from HQ6.out)
            go_upto_region 40 with (fail)
            clear x0 x1 x2 x3 x4 x5 x6 hlx hx6
            generalize wr6 = WQ at *
            have HY := Lib.hid (HCQ.out)
            have hrg := HRG.out _ HY.out
            have HL := Lib.hid (fun W => refLine_any (W0 := W) ⟨3, 0, 0, 0, 0, 0, ⟨#[]⟩⟩ hrg.1)
            have hcs := HTL.out _ HY.out
            obtain ⟨tb, htb⟩ : ∃ tb, lineBy ⟨3, 0, 0, 0, 0, 0, ⟨#[]⟩⟩ = tb := ⟨_, rfl⟩
            obtain ⟨te, hte⟩ : ∃ te, lineEr ⟨3, 0, 0, 0, 0, 0, ⟨#[]⟩⟩ = te := ⟨_, rfl⟩
            rw [htb, hte] at HL hcs
            simp only at HL
            have HCS := Lib.hid hcs
            clear hcs htb hte HY HTL HNO HRG hrg
            obtain ⟨x0, x1, x2, x3, x4, x5, x6⟩ := ocells (show Blk WQ bx 24 #[.int .i64 3, .int .i64 0, .int .i64 0, .int .i64 0, .int .i64 0, .int .u32 0, .string ⟨#[]⟩] from HQ.out.x)
            have hlx := HQ.out.x.lt
            go_wp2_with fail
            refine (HL.out _).mono ?_
            rintro e W8 ⟨rfl, hb8⟩
            have HR8 := Lib.hid (HQ.out.step hb8)
            clear hb8 HQ HL x0 x1 x2 x3 x4 x5 x6 hlx
            obtain ⟨x0, x1, x2, x3, x4, x5, x6⟩ := ocells (show Blk W8 bx 24 #[.int .i64 3, .int .i64 0, .int .i64 0, .int .i64 0, .int .i64 0, .int .u32 0, .string ⟨#[]⟩] from HR8.out.x)
            obtain ⟨r0, r1, r2, r3, r4, r5, r6⟩ := ocells (show Blk W8 w.heap.size 24 #[.int .i64 0, .int .i64 0, .int .i64 0, .int .i64 0, .int .i64 0, .int .u32 0, .string ⟨#[]⟩] from HR8.out.r)
            have hlx := HR8.out.x.lt
            have hlr := HR8.out.r.lt
            have g0 := HR8.out.r.frozen 0
            have g1 := HR8.out.r.frozen 1
            have g2 := HR8.out.r.frozen 2
            have g3 := HR8.out.r.frozen 3
            have g4 := HR8.out.r.frozen 4
            have g5 := HR8.out.r.frozen 5
            have g6 := HR8.out.r.frozen 6
            have HRB := Lib.hid (show Blk W8 w.heap.size 24 #[.int .i64 0, .int .i64 0, .int .i64 0, .int .i64 0, .int .i64 0, .int .u32 0, .string ⟨#[]⟩] from HR8.out.r)
            rcases HCS.out with ⟨rfl, heq, hrd⟩ | ⟨rfl, hrd⟩ | ⟨rfl, heq, hrd⟩
            · have hb := seq_trueQ heq
              have HF := Lib.hid hrd
              clear HCS heq hrd
              go_wp2
              exact bodyPost_ret (results_row_tmp Tryd.results13 _ rfl (set7_blk HRB.out _ _ _ _ _ _ _) Tryd.underlying24 rfl (by kernel_rfl)) rfl (by rw [HPOST.out, HF.out]; exact ⟨rfl, set7_below HR8.out.b (Nat.le_refl _) _ _ _ _ _ _ _⟩)
            · have HF := Lib.hid hrd
              clear HCS hrd
              go_wp2
              exact bodyPost_ret (results_row_tmp Tryd.results13 _ rfl (set7_blk HRB.out _ _ _ _ _ _ _) Tryd.underlying24 rfl (by kernel_rfl)) rfl (by rw [HPOST.out, HF.out]; exact ⟨rfl, set7_below HR8.out.b (Nat.le_refl _) _ _ _ _ _ _ _⟩)
            · have hb := seq_falseQ heq
              have HF := Lib.hid hrd
              clear HCS heq hrd
              go_wp2
              exact bodyPost_ret (results_row_tmp Tryd.results13 _ rfl (set7_blk HRB.out _ _ _ _ _ _ _) Tryd.underlying24 rfl (by kernel_rfl)) rfl (by rw [HPOST.out, HF.out]; exact ⟨rfl, set7_below HR8.out.b (Nat.le_refl _) _ _ _ _ _ _ _⟩)
          · have hcq := candQ_k4 (l1 := l1) (l2 := l2) hK
            simp only [hA] at hcq
            rw [hK] at HQ6
            have HCQ := Lib.hid hcq
            clear hcq hK
            have hx6 : Blk wr6 bx 24 #[.int .i64 4, .int .i64 0, .int .i64 0, .int .i64 0, .int .i64 0, .int .u32 0, .string ⟨#[]⟩] := HQ6.out.x
            obtain ⟨x0, x1, x2, x3, x4, x5, x6⟩ := ocells hx6
            have hlx := hx6.lt
            have f1 := hx6.frozen 1
            have hq0 : QR w bx _ L ⟨4, A, 0, 0, 0, 0, ⟨#[]⟩⟩ (wr6.setCell ⟨bx, 1, none⟩ (.int .i64 A)) := (HQ6.out).setX (by have := (HQ6.out).x.set_ 1 (.int .i64 A); simpa [O.cells, zeroO] using this)
            have HQ := Lib.hid (show QR w bx _ L ⟨4, A, 0, 0, 0, 0, ⟨#[]⟩⟩ (wr6.setCell ⟨bx, 1, none⟩ (.int .i64 A)) from hq0)
            clear hq0
            go_upto_region 40 with (fail)
            clear x0 x1 x2 x3 x4 x5 x6 hlx hx6 f1
            generalize (wr6.setCell ⟨bx, 1, none⟩ (.int .i64 A)) = WQ at *
            have HY := Lib.hid (HCQ.out)
            have hrg := HRG.out _ HY.out
            have HL := Lib.hid (fun W => refLine_any (W0 := W) ⟨4, A, 0, 0, 0, 0, ⟨#[]⟩⟩ hrg.1)
            have hcs := HTL.out _ HY.out
            obtain ⟨tb, htb⟩ : ∃ tb, lineBy ⟨4, A, 0, 0, 0, 0, ⟨#[]⟩⟩ = tb := ⟨_, rfl⟩
            obtain ⟨te, hte⟩ : ∃ te, lineEr ⟨4, A, 0, 0, 0, 0, ⟨#[]⟩⟩ = te := ⟨_, rfl⟩
            rw [htb, hte] at HL hcs
            simp only at HL
            have HCS := Lib.hid hcs
            clear hcs htb hte HY HTL HNO HRG hrg
            obtain ⟨x0, x1, x2, x3, x4, x5, x6⟩ := ocells (show Blk WQ bx 24 #[.int .i64 4, .int .i64 A, .int .i64 0, .int .i64 0, .int .i64 0, .int .u32 0, .string ⟨#[]⟩] from HQ.out.x)
            have hlx := HQ.out.x.lt
            go_wp2_with fail
            refine (HL.out _).mono ?_
            rintro e W8 ⟨rfl, hb8⟩
            have HR8 := Lib.hid (HQ.out.step hb8)
            clear hb8 HQ HL x0 x1 x2 x3 x4 x5 x6 hlx
            obtain ⟨x0, x1, x2, x3, x4, x5, x6⟩ := ocells (show Blk W8 bx 24 #[.int .i64 4, .int .i64 A, .int .i64 0, .int .i64 0, .int .i64 0, .int .u32 0, .string ⟨#[]⟩] from HR8.out.x)
            obtain ⟨r0, r1, r2, r3, r4, r5, r6⟩ := ocells (show Blk W8 w.heap.size 24 #[.int .i64 0, .int .i64 0, .int .i64 0, .int .i64 0, .int .i64 0, .int .u32 0, .string ⟨#[]⟩] from HR8.out.r)
            have hlx := HR8.out.x.lt
            have hlr := HR8.out.r.lt
            have g0 := HR8.out.r.frozen 0
            have g1 := HR8.out.r.frozen 1
            have g2 := HR8.out.r.frozen 2
            have g3 := HR8.out.r.frozen 3
            have g4 := HR8.out.r.frozen 4
            have g5 := HR8.out.r.frozen 5
            have g6 := HR8.out.r.frozen 6
            have HRB := Lib.hid (show Blk W8 w.heap.size 24 #[.int .i64 0, .int .i64 0, .int .i64 0, .int .i64 0, .int .i64 0, .int .u32 0, .string ⟨#[]⟩] from HR8.out.r)
            rcases HCS.out with ⟨rfl, heq, hrd⟩ | ⟨rfl, hrd⟩ | ⟨rfl, heq, hrd⟩
            · have hb := seq_trueQ heq
              have HF := Lib.hid hrd
              clear HCS heq hrd
              go_wp2
              exact bodyPost_ret (results_row_tmp Tryd.results13 _ rfl (set7_blk HRB.out _ _ _ _ _ _ _) Tryd.underlying24 rfl (by kernel_rfl)) rfl (by rw [HPOST.out, HF.out]; exact ⟨rfl, set7_below HR8.out.b (Nat.le_refl _) _ _ _ _ _ _ _⟩)
            · have HF := Lib.hid hrd
              clear HCS hrd
              go_wp2
              exact bodyPost_ret (results_row_tmp Tryd.results13 _ rfl (set7_blk HRB.out _ _ _ _ _ _ _) Tryd.underlying24 rfl (by kernel_rfl)) rfl (by rw [HPOST.out, HF.out]; exact ⟨rfl, set7_below HR8.out.b (Nat.le_refl _) _ _ _ _ _ _ _⟩)
            · have hb := seq_falseQ heq
              have HF := Lib.hid hrd
              clear HCS heq hrd
              go_wp2
              exact bodyPost_ret (results_row_tmp Tryd.results13 _ rfl (set7_blk HRB.out _ _ _ _ _ _ _) Tryd.underlying24 rfl (by kernel_rfl)) rfl (by rw [HPOST.out, HF.out]; exact ⟨rfl, set7_below HR8.out.b (Nat.le_refl _) _ _ _ _ _ _ _⟩)
          · have hcq := candQ_k5 (l1 := l1) (l2 := l2) hK
            simp only [hA, hB] at hcq
            rw [hK] at HQ6
            have HCQ := Lib.hid hcq
            clear hcq hK
            have hx6 : Blk wr6 bx 24 #[.int .i64 5, .int .i64 0, .int .i64 0, .int .i64 0, .int .i64 0, .int .u32 0, .string ⟨#[]⟩] := HQ6.out.x
            obtain ⟨x0, x1, x2, x3, x4, x5, x6⟩ := ocells hx6
            have hlx := hx6.lt
            have f3 := hx6.frozen 3
            have f4 := hx6.frozen 4
            have hq0 : QR w bx _ L ⟨5, 0, 0, A, 0, 0, ⟨#[]⟩⟩ (wr6.setCell ⟨bx, 3, none⟩ (.int .i64 A)) := (HQ6.out).setX (by have := (HQ6.out).x.set_ 3 (.int .i64 A); simpa [O.cells, zeroO] using this)
            have hq1 : QR w bx _ L ⟨5, 0, 0, A, B, 0, ⟨#[]⟩⟩ ((wr6.setCell ⟨bx, 3, none⟩ (.int .i64 A)).setCell ⟨bx, 4, none⟩ (.int .i64 B)) := (hq0).setX (by have := (hq0).x.set_ 4 (.int .i64 B); simpa [O.cells, zeroO] using this)
            have HQ := Lib.hid (show QR w bx _ L ⟨5, 0, 0, A, B, 0, ⟨#[]⟩⟩ ((wr6.setCell ⟨bx, 3, none⟩ (.int .i64 A)).setCell ⟨bx, 4, none⟩ (.int .i64 B)) from hq1)
            clear hq0 hq1
            go_upto_region 40 with (fail)
            clear x0 x1 x2 x3 x4 x5 x6 hlx hx6 f3 f4
            generalize ((wr6.setCell ⟨bx, 3, none⟩ (.int .i64 A)).setCell ⟨bx, 4, none⟩ (.int .i64 B)) = WQ at *
            have HY := Lib.hid (HCQ.out)
            have hrg := HRG.out _ HY.out
            have HL := Lib.hid (fun W => refLine_any (W0 := W) ⟨5, 0, 0, A, B, 0, ⟨#[]⟩⟩ hrg.1)
            have hcs := HTL.out _ HY.out
            obtain ⟨tb, htb⟩ : ∃ tb, lineBy ⟨5, 0, 0, A, B, 0, ⟨#[]⟩⟩ = tb := ⟨_, rfl⟩
            obtain ⟨te, hte⟩ : ∃ te, lineEr ⟨5, 0, 0, A, B, 0, ⟨#[]⟩⟩ = te := ⟨_, rfl⟩
            rw [htb, hte] at HL hcs
            simp only at HL
            have HCS := Lib.hid hcs
            clear hcs htb hte HY HTL HNO HRG hrg
            obtain ⟨x0, x1, x2, x3, x4, x5, x6⟩ := ocells (show Blk WQ bx 24 #[.int .i64 5, .int .i64 0, .int .i64 0, .int .i64 A, .int .i64 B, .int .u32 0, .string ⟨#[]⟩] from HQ.out.x)
            have hlx := HQ.out.x.lt
            go_wp2_with fail
            refine (HL.out _).mono ?_
            rintro e W8 ⟨rfl, hb8⟩
            have HR8 := Lib.hid (HQ.out.step hb8)
            clear hb8 HQ HL x0 x1 x2 x3 x4 x5 x6 hlx
            obtain ⟨x0, x1, x2, x3, x4, x5, x6⟩ := ocells (show Blk W8 bx 24 #[.int .i64 5, .int .i64 0, .int .i64 0, .int .i64 A, .int .i64 B, .int .u32 0, .string ⟨#[]⟩] from HR8.out.x)
            obtain ⟨r0, r1, r2, r3, r4, r5, r6⟩ := ocells (show Blk W8 w.heap.size 24 #[.int .i64 0, .int .i64 0, .int .i64 0, .int .i64 0, .int .i64 0, .int .u32 0, .string ⟨#[]⟩] from HR8.out.r)
            have hlx := HR8.out.x.lt
            have hlr := HR8.out.r.lt
            have g0 := HR8.out.r.frozen 0
            have g1 := HR8.out.r.frozen 1
            have g2 := HR8.out.r.frozen 2
            have g3 := HR8.out.r.frozen 3
            have g4 := HR8.out.r.frozen 4
            have g5 := HR8.out.r.frozen 5
            have g6 := HR8.out.r.frozen 6
            have HRB := Lib.hid (show Blk W8 w.heap.size 24 #[.int .i64 0, .int .i64 0, .int .i64 0, .int .i64 0, .int .i64 0, .int .u32 0, .string ⟨#[]⟩] from HR8.out.r)
            rcases HCS.out with ⟨rfl, heq, hrd⟩ | ⟨rfl, hrd⟩ | ⟨rfl, heq, hrd⟩
            · have hb := seq_trueQ heq
              have HF := Lib.hid hrd
              clear HCS heq hrd
              go_wp2
              exact bodyPost_ret (results_row_tmp Tryd.results13 _ rfl (set7_blk HRB.out _ _ _ _ _ _ _) Tryd.underlying24 rfl (by kernel_rfl)) rfl (by rw [HPOST.out, HF.out]; exact ⟨rfl, set7_below HR8.out.b (Nat.le_refl _) _ _ _ _ _ _ _⟩)
            · have HF := Lib.hid hrd
              clear HCS hrd
              go_wp2
              exact bodyPost_ret (results_row_tmp Tryd.results13 _ rfl (set7_blk HRB.out _ _ _ _ _ _ _) Tryd.underlying24 rfl (by kernel_rfl)) rfl (by rw [HPOST.out, HF.out]; exact ⟨rfl, set7_below HR8.out.b (Nat.le_refl _) _ _ _ _ _ _ _⟩)
            · have hb := seq_falseQ heq
              have HF := Lib.hid hrd
              clear HCS heq hrd
              go_wp2
              exact bodyPost_ret (results_row_tmp Tryd.results13 _ rfl (set7_blk HRB.out _ _ _ _ _ _ _) Tryd.underlying24 rfl (by kernel_rfl)) rfl (by rw [HPOST.out, HF.out]; exact ⟨rfl, set7_below HR8.out.b (Nat.le_refl _) _ _ _ _ _ _ _⟩)
          · have hcq := candQ_k6 (l1 := l1) (l2 := l2) hK
            simp only [hA] at hcq
            rw [hK] at HQ6
            have HCQ := Lib.hid hcq
            clear hcq hK
            have hx6 : Blk wr6 bx 24 #[.int .i64 6, .int .i64 0, .int .i64 0, .int .i64 0, .int .i64 0, .int .u32 0, .string ⟨#[]⟩] := HQ6.out.x
            obtain ⟨x0, x1, x2, x3, x4, x5, x6⟩ := ocells hx6
            have hlx := hx6.lt
            have f3 := hx6.frozen 3
            have f6 := hx6.frozen 6
            have hq0 : QR w bx _ L ⟨6, 0, 0, A, 0, 0, ⟨#[]⟩⟩ (wr6.setCell ⟨bx, 3, none⟩ (.int .i64 A)) := (HQ6.out).setX (by have := (HQ6.out).x.set_ 3 (.int .i64 A); simpa [O.cells, zeroO] using this)
            have hq1 : QR w bx _ L ⟨6, 0, 0, A, 0, 0, ⟨l2.toArray⟩⟩ ((wr6.setCell ⟨bx, 3, none⟩ (.int .i64 A)).setCell ⟨bx, 6, none⟩ (.string ⟨l2.toArray⟩)) := (hq0).setX (by have := (hq0).x.set_ 6 (.string ⟨l2.toArray⟩); simpa [O.cells, zeroO] using this)
            have HQ := Lib.hid (show QR w bx _ L ⟨6, 0, 0, A, 0, 0, ⟨l2.toArray⟩⟩ ((wr6.setCell ⟨bx, 3, none⟩ (.int .i64 A)).setCell ⟨bx, 6, none⟩ (.string ⟨l2.toArray⟩)) from hq1)
            clear hq0 hq1
            go_upto_region 40 with (fail)
            clear x0 x1 x2 x3 x4 x5 x6 hlx hx6 f3 f6
            generalize ((wr6.setCell ⟨bx, 3, none⟩ (.int .i64 A)).setCell ⟨bx, 6, none⟩ (.string ⟨l2.toArray⟩)) = WQ at *
            have HY := Lib.hid (HCQ.out)
            have hrg := HRG.out _ HY.out
            have HL := Lib.hid (fun W => refLine_any (W0 := W) ⟨6, 0, 0, A, 0, 0, ⟨l2.toArray⟩⟩ hrg.1)
            have hcs := HTL.out _ HY.out
            obtain ⟨tb, htb⟩ : ∃ tb, lineBy ⟨6, 0, 0, A, 0, 0, ⟨l2.toArray⟩⟩ = tb := ⟨_, rfl⟩
            obtain ⟨te, hte⟩ : ∃ te, lineEr ⟨6, 0, 0, A, 0, 0, ⟨l2.toArray⟩⟩ = te := ⟨_, rfl⟩
            rw [htb, hte] at HL hcs
            simp only at HL
            have HCS := Lib.hid hcs
            clear hcs htb hte HY HTL HNO HRG hrg
            obtain ⟨x0, x1, x2, x3, x4, x5, x6⟩ := ocells (show Blk WQ bx 24 #[.int .i64 6, .int .i64 0, .int .i64 0, .int .i64 A, .int .i64 0, .int .u32 0, .string ⟨l2.toArray⟩] from HQ.out.x)
            have hlx := HQ.out.x.lt
            go_wp2_with fail
            refine (HL.out _).mono ?_
            rintro e W8 ⟨rfl, hb8⟩
            have HR8 := Lib.hid (HQ.out.step hb8)
            clear hb8 HQ HL x0 x1 x2 x3 x4 x5 x6 hlx
            obtain ⟨x0, x1, x2, x3, x4, x5, x6⟩ := ocells (show Blk W8 bx 24 #[.int .i64 6, .int .i64 0, .int .i64 0, .int .i64 A, .int .i64 0, .int .u32 0, .string ⟨l2.toArray⟩] from HR8.out.x)
            obtain ⟨r0, r1, r2, r3, r4, r5, r6⟩ := ocells (show Blk W8 w.heap.size 24 #[.int .i64 0, .int .i64 0, .int .i64 0, .int .i64 0, .int .i64 0, .int .u32 0, .string ⟨#[]⟩] from HR8.out.r)
            have hlx := HR8.out.x.lt
            have hlr := HR8.out.r.lt
            have g0 := HR8.out.r.frozen 0
            have g1 := HR8.out.r.frozen 1
            have g2 := HR8.out.r.frozen 2
            have g3 := HR8.out.r.frozen 3
            have g4 := HR8.out.r.frozen 4
            have g5 := HR8.out.r.frozen 5
            have g6 := HR8.out.r.frozen 6
            have HRB := Lib.hid (show Blk W8 w.heap.size 24 #[.int .i64 0, .int .i64 0, .int .i64 0, .int .i64 0, .int .i64 0, .int .u32 0, .string ⟨#[]⟩] from HR8.out.r)
            rcases HCS.out with ⟨rfl, heq, hrd⟩ | ⟨rfl, hrd⟩ | ⟨rfl, heq, hrd⟩
            · have hb := seq_trueQ heq
              have HF := Lib.hid hrd
              clear HCS heq hrd
              go_wp2
              exact bodyPost_ret (results_row_tmp Tryd.results13 _ rfl (set7_blk HRB.out _ _ _ _ _ _ _) Tryd.underlying24 rfl (by kernel_rfl)) rfl (by rw [HPOST.out, HF.out]; exact ⟨rfl, set7_below HR8.out.b (Nat.le_refl _) _ _ _ _ _ _ _⟩)
            · have HF := Lib.hid hrd
              clear HCS hrd
              go_wp2
              exact bodyPost_ret (results_row_tmp Tryd.results13 _ rfl (set7_blk HRB.out _ _ _ _ _ _ _) Tryd.underlying24 rfl (by kernel_rfl)) rfl (by rw [HPOST.out, HF.out]; exact ⟨rfl, set7_below HR8.out.b (Nat.le_refl _) _ _ _ _ _ _ _⟩)
            · have hb := seq_falseQ heq
              have HF := Lib.hid hrd
              clear HCS heq hrd
              go_wp2
              exact bodyPost_ret (results_row_tmp Tryd.results13 _ rfl (set7_blk HRB.out _ _ _ _ _ _ _) Tryd.underlying24 rfl (by kernel_rfl)) rfl (by rw [HPOST.out, HF.out]; exact ⟨rfl, set7_below HR8.out.b (Nat.le_refl _) _ _ _ _ _ _ _⟩)
          · have hcq := candQ_k7 (l1 := l1) (l2 := l2) hK
            simp only [hA] at hcq
            rw [hK] at HQ6
            have HCQ := Lib.hid hcq
            clear hcq hK
            have hx6 : Blk wr6 bx 24 #[.int .i64 7, .int .i64 0, .int .i64 0, .int .i64 0, .int .i64 0, .int .u32 0, .string ⟨#[]⟩] := HQ6.out.x
            obtain ⟨x0, x1, x2, x3, x4, x5, x6⟩ := ocells hx6
            have hlx := hx6.lt
            have f3 := hx6.frozen 3
            have hq0 : QR w bx _ L ⟨7, 0, 0, A, 0, 0, ⟨#[]⟩⟩ (wr6.setCell ⟨bx, 3, none⟩ (.int .i64 A)) := (HQ6.out).setX (by have := (HQ6.out).x.set_ 3 (.int .i64 A); simpa [O.cells, zeroO] using this)
            have HQ := Lib.hid (show QR w bx _ L ⟨7, 0, 0, A, 0, 0, ⟨#[]⟩⟩ (wr6.setCell ⟨bx, 3, none⟩ (.int .i64 A)) from hq0)
            clear hq0
            go_upto_region 40 with (fail)
            clear x0 x1 x2 x3 x4 x5 x6 hlx hx6 f3
            generalize (wr6.setCell ⟨bx, 3, none⟩ (.int .i64 A)) = WQ at *
            have HY := Lib.hid (HCQ.out)
            have hrg := HRG.out _ HY.out
            have HL := Lib.hid (fun W => refLine_any (W0 := W) ⟨7, 0, 0, A, 0, 0, ⟨#[]⟩⟩ hrg.1)
            have hcs := HTL.out _ HY.out
            obtain ⟨tb, htb⟩ : ∃ tb, lineBy ⟨7, 0, 0, A, 0, 0, ⟨#[]⟩⟩ = tb := ⟨_, rfl⟩
            obtain ⟨te, hte⟩ : ∃ te, lineEr ⟨7, 0, 0, A, 0, 0, ⟨#[]⟩⟩ = te := ⟨_, rfl⟩
            rw [htb, hte] at HL hcs
            simp only at HL
            have HCS := Lib.hid hcs
            clear hcs htb hte HY HTL HNO HRG hrg
            obtain ⟨x0, x1, x2, x3, x4, x5, x6⟩ := ocells (show Blk WQ bx 24 #[.int .i64 7, .int .i64 0, .int .i64 0, .int .i64 A, .int .i64 0, .int .u32 0, .string ⟨#[]⟩] from HQ.out.x)
            have hlx := HQ.out.x.lt
            go_wp2_with fail
            refine (HL.out _).mono ?_
            rintro e W8 ⟨rfl, hb8⟩
            have HR8 := Lib.hid (HQ.out.step hb8)
            clear hb8 HQ HL x0 x1 x2 x3 x4 x5 x6 hlx
            obtain ⟨x0, x1, x2, x3, x4, x5, x6⟩ := ocells (show Blk W8 bx 24 #[.int .i64 7, .int .i64 0, .int .i64 0, .int .i64 A, .int .i64 0, .int .u32 0, .string ⟨#[]⟩] from HR8.out.x)
            obtain ⟨r0, r1, r2, r3, r4, r5, r6⟩ := ocells (show Blk W8 w.heap.size 24 #[.int .i64 0, .int .i64 0, .int .i64 0, .int .i64 0, .int .i64 0, .int .u32 0, .string ⟨#[]⟩] from HR8.out.r)
            have hlx := HR8.out.x.lt
            have hlr := HR8.out.r.lt
            have g0 := HR8.out.r.frozen 0
            have g1 := HR8.out.r.frozen 1
            have g2 := HR8.out.r.frozen 2
            have g3 := HR8.out.r.frozen 3
            have g4 := HR8.out.r.frozen 4
            have g5 := HR8.out.r.frozen 5
            have g6 := HR8.out.r.frozen 6
            have HRB := Lib.hid (show Blk W8 w.heap.size 24 #[.int .i64 0, .int .i64 0, .int .i64 0, .int .i64 0, .int .i64 0, .int .u32 0, .string ⟨#[]⟩] from HR8.out.r)
            rcases HCS.out with ⟨rfl, heq, hrd⟩ | ⟨rfl, hrd⟩ | ⟨rfl, heq, hrd⟩
            · have hb := seq_trueQ heq
              have HF := Lib.hid hrd
              clear HCS heq hrd
              go_wp2
              exact bodyPost_ret (results_row_tmp Tryd.results13 _ rfl (set7_blk HRB.out _ _ _ _ _ _ _) Tryd.underlying24 rfl (by kernel_rfl)) rfl (by rw [HPOST.out, HF.out]; exact ⟨rfl, set7_below HR8.out.b (Nat.le_refl _) _ _ _ _ _ _ _⟩)
            · have HF := Lib.hid hrd
              clear HCS hrd
              go_wp2
              exact bodyPost_ret (results_row_tmp Tryd.results13 _ rfl (set7_blk HRB.out _ _ _ _ _ _ _) Tryd.underlying24 rfl (by kernel_rfl)) rfl (by rw [HPOST.out, HF.out]; exact ⟨rfl, set7_below HR8.out.b (Nat.le_refl _) _ _ _ _ _ _ _⟩)
            · have hb := seq_falseQ heq
              have HF := Lib.hid hrd
              clear HCS heq hrd
              go_wp2
              exact bodyPost_ret (results_row_tmp Tryd.results13 _ rfl (set7_blk HRB.out _ _ _ _ _ _ _) Tryd.underlying24 rfl (by kernel_rfl)) rfl (by rw [HPOST.out, HF.out]; exact ⟨rfl, set7_below HR8.out.b (Nat.le_refl _) _ _ _ _ _ _ _⟩)
          · have hcq := candQ_k8 (l1 := l1) (l2 := l2) hK
            simp only [hB] at hcq
            rw [hK] at HQ6
            have HCQ := Lib.hid hcq
            clear hcq hK
            have hx6 : Blk wr6 bx 24 #[.int .i64 8, .int .i64 0, .int .i64 0, .int .i64 0, .int .i64 0, .int .u32 0, .string ⟨#[]⟩] := HQ6.out.x
            obtain ⟨x0, x1, x2, x3, x4, x5, x6⟩ := ocells hx6
            have hlx := hx6.lt
            have f6 := hx6.frozen 6
            have f5 := hx6.frozen 5
            by_cases hbb : 0 ≤ B ∧ B ≤ 255
            case neg =>
              have hq0 : QR w bx _ L ⟨8, 0, 0, 0, 0, 0, ⟨l1.toArray⟩⟩ (wr6.setCell ⟨bx, 6, none⟩ (.string ⟨l1.toArray⟩)) := (HQ6.out).setX (by have := (HQ6.out).x.set_ 6 (.string ⟨l1.toArray⟩); simpa [O.cells, zeroO] using this)
              have hcc : B < 0 ∨ (¬ B < 0 ∧ 255 < B) := by omega
              have HQ := Lib.hid hq0
              clear hq0
              have HF := Lib.hid (HNO.out (by rw [HCQ.out, if_neg hbb]))
              clear hbb
              rcases hcc with hc1 | ⟨hc1, hc2⟩
              all_goals
                go_upto_region 33 with (fail)
                clear x0 x1 x2 x3 x4 x5 x6 hlx hx6 f6 f5
                generalize (wr6.setCell ⟨bx, 6, none⟩ (.string ⟨l1.toArray⟩)) = WQ at *
                have g0 := HQ.out.r.frozen 0
                have g1 := HQ.out.r.frozen 1
                have g2 := HQ.out.r.frozen 2
                have g3 := HQ.out.r.frozen 3
                have g4 := HQ.out.r.frozen 4
                have g5 := HQ.out.r.frozen 5
                have g6 := HQ.out.r.frozen 6
                obtain ⟨r0, r1, r2, r3, r4, r5, r6⟩ := ocells (show Blk WQ w.heap.size 24 #[.int .i64 0, .int .i64 0, .int .i64 0, .int .i64 0, .int .i64 0, .int .u32 0, .string ⟨#[]⟩] from HQ.out.r)
                have hlr := HQ.out.r.lt
                have HRB := Lib.hid (show Blk WQ w.heap.size 24 #[.int .i64 0, .int .i64 0, .int .i64 0, .int .i64 0, .int .i64 0, .int .u32 0, .string ⟨#[]⟩] from HQ.out.r)
                go_wp2
                exact bodyPost_ret (results_row_tmp Tryd.results13 _ rfl (set7_blk HRB.out _ _ _ _ _ _ _) Tryd.underlying24 rfl (by kernel_rfl)) rfl (by rw [HPOST.out, HF.out]; exact ⟨rfl, set7_below HQ.out.b (Nat.le_refl _) _ _ _ _ _ _ _⟩)
            case pos =>
              have hc1 : ¬ B < 0 := by omega
              have hc2 : ¬ 255 < B := by omega
              have hwB : IntKind.u32.wrap B = B := IntWalk.u32_in _ (by omega)
              have hq0 : QR w bx _ L ⟨8, 0, 0, 0, 0, 0, ⟨l1.toArray⟩⟩ (wr6.setCell ⟨bx, 6, none⟩ (.string ⟨l1.toArray⟩)) := (HQ6.out).setX (by have := (HQ6.out).x.set_ 6 (.string ⟨l1.toArray⟩); simpa [O.cells, zeroO] using this)
              have hq1 : QR w bx _ L ⟨8, 0, 0, 0, 0, B, ⟨l1.toArray⟩⟩ ((wr6.setCell ⟨bx, 6, none⟩ (.string ⟨l1.toArray⟩)).setCell ⟨bx, 5, none⟩ (.int .u32 B)) := (hq0).setX (by have := (hq0).x.set_ 5 (.int .u32 B); simpa [O.cells, zeroO] using this)
              have HQ := Lib.hid hq1
              clear hq0 hq1
              have HC2 := Lib.hid (HCQ.out.trans (if_pos hbb))
              clear hbb
              go_upto_region 40 with (fail)
              clear x0 x1 x2 x3 x4 x5 x6 hlx hx6 f6 f5
              generalize ((wr6.setCell ⟨bx, 6, none⟩ (.string ⟨l1.toArray⟩)).setCell ⟨bx, 5, none⟩ (.int .u32 B)) = WQ at *
              have HY := Lib.hid (HC2.out)
              have hrg := HRG.out _ HY.out
              have HL := Lib.hid (fun W => refLine_any (W0 := W) ⟨8, 0, 0, 0, 0, B, ⟨l1.toArray⟩⟩ hrg.1)
              have hcs := HTL.out _ HY.out
              obtain ⟨tb, htb⟩ : ∃ tb, lineBy ⟨8, 0, 0, 0, 0, B, ⟨l1.toArray⟩⟩ = tb := ⟨_, rfl⟩
              obtain ⟨te, hte⟩ : ∃ te, lineEr ⟨8, 0, 0, 0, 0, B, ⟨l1.toArray⟩⟩ = te := ⟨_, rfl⟩
              rw [htb, hte] at HL hcs
              simp only at HL
              have HCS := Lib.hid hcs
              clear hcs htb hte HY HTL HNO HRG hrg
              obtain ⟨x0, x1, x2, x3, x4, x5, x6⟩ := ocells (show Blk WQ bx 24 #[.int .i64 8, .int .i64 0, .int .i64 0, .int .i64 0, .int .i64 0, .int .u32 B, .string ⟨l1.toArray⟩] from HQ.out.x)
              have hlx := HQ.out.x.lt
              go_wp2_with fail
              refine (HL.out _).mono ?_
              rintro e W8 ⟨rfl, hb8⟩
              have HR8 := Lib.hid (HQ.out.step hb8)
              clear hb8 HQ HL x0 x1 x2 x3 x4 x5 x6 hlx
              obtain ⟨x0, x1, x2, x3, x4, x5, x6⟩ := ocells (show Blk W8 bx 24 #[.int .i64 8, .int .i64 0, .int .i64 0, .int .i64 0, .int .i64 0, .int .u32 B, .string ⟨l1.toArray⟩] from HR8.out.x)
              obtain ⟨r0, r1, r2, r3, r4, r5, r6⟩ := ocells (show Blk W8 w.heap.size 24 #[.int .i64 0, .int .i64 0, .int .i64 0, .int .i64 0, .int .i64 0, .int .u32 0, .string ⟨#[]⟩] from HR8.out.r)
              have hlx := HR8.out.x.lt
              have hlr := HR8.out.r.lt
              have g0 := HR8.out.r.frozen 0
              have g1 := HR8.out.r.frozen 1
              have g2 := HR8.out.r.frozen 2
              have g3 := HR8.out.r.frozen 3
              have g4 := HR8.out.r.frozen 4
              have g5 := HR8.out.r.frozen 5
              have g6 := HR8.out.r.frozen 6
              have HRB := Lib.hid (show Blk W8 w.heap.size 24 #[.int .i64 0, .int .i64 0, .int .i64 0, .int .i64 0, .int .i64 0, .int .u32 0, .string ⟨#[]⟩] from HR8.out.r)
              rcases HCS.out with ⟨rfl, heq, hrd⟩ | ⟨rfl, hrd⟩ | ⟨rfl, heq, hrd⟩
              · have hb := seq_trueQ heq
                have HF := Lib.hid hrd
                clear HCS heq hrd
                go_wp2
                exact bodyPost_ret (results_row_tmp Tryd.results13 _ rfl (set7_blk HRB.out _ _ _ _ _ _ _) Tryd.underlying24 rfl (by kernel_rfl)) rfl (by rw [HPOST.out, HF.out]; exact ⟨rfl, set7_below HR8.out.b (Nat.le_refl _) _ _ _ _ _ _ _⟩)
              · have HF := Lib.hid hrd
                clear HCS hrd
                go_wp2
                exact bodyPost_ret (results_row_tmp Tryd.results13 _ rfl (set7_blk HRB.out _ _ _ _ _ _ _) Tryd.underlying24 rfl (by kernel_rfl)) rfl (by rw [HPOST.out, HF.out]; exact ⟨rfl, set7_below HR8.out.b (Nat.le_refl _) _ _ _ _ _ _ _⟩)
              · have hb := seq_falseQ heq
                have HF := Lib.hid hrd
                clear HCS heq hrd
                go_wp2
                exact bodyPost_ret (results_row_tmp Tryd.results13 _ rfl (set7_blk HRB.out _ _ _ _ _ _ _) Tryd.underlying24 rfl (by kernel_rfl)) rfl (by rw [HPOST.out, HF.out]; exact ⟨rfl, set7_below HR8.out.b (Nat.le_refl _) _ _ _ _ _ _ _⟩)
          · have hcq := candQ_k9 (l1 := l1) (l2 := l2) hK
            simp only [hA, hB] at hcq
            rw [hK] at HQ6
            have HCQ := Lib.hid hcq
            clear hcq hK
            have hx6 : Blk wr6 bx 24 #[.int .i64 9, .int .i64 0, .int .i64 0, .int .i64 0, .int .i64 0, .int .u32 0, .string ⟨#[]⟩] := HQ6.out.x
            obtain ⟨x0, x1, x2, x3, x4, x5, x6⟩ := ocells hx6
            have hlx := hx6.lt
            have f3 := hx6.frozen 3
            have f5 := hx6.frozen 5
            by_cases hbb : 0 ≤ B ∧ B ≤ 255
            case neg =>
              have hq0 : QR w bx _ L ⟨9, 0, 0, A, 0, 0, ⟨#[]⟩⟩ (wr6.setCell ⟨bx, 3, none⟩ (.int .i64 A)) := (HQ6.out).setX (by have := (HQ6.out).x.set_ 3 (.int .i64 A); simpa [O.cells, zeroO] using this)
              have hcc : B < 0 ∨ (¬ B < 0 ∧ 255 < B) := by omega
              have HQ := Lib.hid hq0
              clear hq0
              have HF := Lib.hid (HNO.out (by rw [HCQ.out, if_neg hbb]))
              clear hbb
              rcases hcc with hc1 | ⟨hc1, hc2⟩
              all_goals
                go_upto_region 38 with (fail)
                clear x0 x1 x2 x3 x4 x5 x6 hlx hx6 f3 f5
                generalize (wr6.setCell ⟨bx, 3, none⟩ (.int .i64 A)) = WQ at *
                have g0 := HQ.out.r.frozen 0
                have g1 := HQ.out.r.frozen 1
                have g2 := HQ.out.r.frozen 2
                have g3 := HQ.out.r.frozen 3
                have g4 := HQ.out.r.frozen 4
                have g5 := HQ.out.r.frozen 5
                have g6 := HQ.out.r.frozen 6
                obtain ⟨r0, r1, r2, r3, r4, r5, r6⟩ := ocells (show Blk WQ w.heap.size 24 #[.int .i64 0, .int .i64 0, .int .i64 0, .int .i64 0, .int .i64 0, .int .u32 0, .string ⟨#[]⟩] from HQ.out.r)
                have hlr := HQ.out.r.lt
                have HRB := Lib.hid (show Blk WQ w.heap.size 24 #[.int .i64 0, .int .i64 0, .int .i64 0, .int .i64 0, .int .i64 0, .int .u32 0, .string ⟨#[]⟩] from HQ.out.r)
                go_wp2
                exact bodyPost_ret (results_row_tmp Tryd.results13 _ rfl (set7_blk HRB.out _ _ _ _ _ _ _) Tryd.underlying24 rfl (by kernel_rfl)) rfl (by rw [HPOST.out, HF.out]; exact ⟨rfl, set7_below HQ.out.b (Nat.le_refl _) _ _ _ _ _ _ _⟩)
            case pos =>
              have hc1 : ¬ B < 0 := by omega
              have hc2 : ¬ 255 < B := by omega
              have hwB : IntKind.u32.wrap B = B := IntWalk.u32_in _ (by omega)
              have hq0 : QR w bx _ L ⟨9, 0, 0, A, 0, 0, ⟨#[]⟩⟩ (wr6.setCell ⟨bx, 3, none⟩ (.int .i64 A)) := (HQ6.out).setX (by have := (HQ6.out).x.set_ 3 (.int .i64 A); simpa [O.cells, zeroO] using this)
              have hq1 : QR w bx _ L ⟨9, 0, 0, A, 0, B, ⟨#[]⟩⟩ ((wr6.setCell ⟨bx, 3, none⟩ (.int .i64 A)).setCell ⟨bx, 5, none⟩ (.int .u32 B)) := (hq0).setX (by have := (hq0).x.set_ 5 (.int .u32 B); simpa [O.cells, zeroO] using this)
              have HQ := Lib.hid hq1
              clear hq0 hq1
              have HC2 := Lib.hid (HCQ.out.trans (if_pos hbb))
              clear hbb
              go_upto_region 40 with (fail)
              clear x0 x1 x2 x3 x4 x5 x6 hlx hx6 f3 f5
              generalize ((wr6.setCell ⟨bx, 3, none⟩ (.int .i64 A)).setCell ⟨bx, 5, none⟩ (.int .u32 B)) = WQ at *
              have HY := Lib.hid (HC2.out)
              have hrg := HRG.out _ HY.out
              have HL := Lib.hid (fun W => refLine_any (W0 := W) ⟨9, 0, 0, A, 0, B, ⟨#[]⟩⟩ hrg.1)
              have hcs := HTL.out _ HY.out
              obtain ⟨tb, htb⟩ : ∃ tb, lineBy ⟨9, 0, 0, A, 0, B, ⟨#[]⟩⟩ = tb := ⟨_, rfl⟩
              obtain ⟨te, hte⟩ : ∃ te, lineEr ⟨9, 0, 0, A, 0, B, ⟨#[]⟩⟩ = te := ⟨_, rfl⟩
              rw [htb, hte] at HL hcs
              simp only at HL
              have HCS := Lib.hid hcs
              clear hcs htb hte HY HTL HNO HRG hrg
              obtain ⟨x0, x1, x2, x3, x4, x5, x6⟩ := ocells (show Blk WQ bx 24 #[.int .i64 9, .int .i64 0, .int .i64 0, .int .i64 A, .int .i64 0, .int .u32 B, .string ⟨#[]⟩] from HQ.out.x)
              have hlx := HQ.out.x.lt
              go_wp2_with fail
              refine (HL.out _).mono ?_
              rintro e W8 ⟨rfl, hb8⟩
              have HR8 := Lib.hid (HQ.out.step hb8)
              clear hb8 HQ HL x0 x1 x2 x3 x4 x5 x6 hlx
              obtain ⟨x0, x1, x2, x3, x4, x5, x6⟩ := ocells (show Blk W8 bx 24 #[.int .i64 9, .int .i64 0, .int .i64 0, .int .i64 A, .int .i64 0, .int .u32 B, .string ⟨#[]⟩] from HR8.out.x)
              obtain ⟨r0, r1, r2, r3, r4, r5, r6⟩ := ocells (show Blk W8 w.heap.size 24 #[.int .i64 0, .int .i64 0, .int .i64 0, .int .i64 0, .int .i64 0, .int .u32 0, .string ⟨#[]⟩] from HR8.out.r)
              have hlx := HR8.out.x.lt
              have hlr := HR8.out.r.lt
              have g0 := HR8.out.r.frozen 0
              have g1 := HR8.out.r.frozen 1
              have g2 := HR8.out.r.frozen 2
              have g3 := HR8.out.r.frozen 3
              have g4 := HR8.out.r.frozen 4
              have g5 := HR8.out.r.frozen 5
              have g6 := HR8.out.r.frozen 6
              have HRB := Lib.hid (show Blk W8 w.heap.size 24 #[.int .i64 0, .int .i64 0, .int .i64 0, .int .i64 0, .int .i64 0, .int .u32 0, .string ⟨#[]⟩] from HR8.out.r)
              rcases HCS.out with ⟨rfl, heq, hrd⟩ | ⟨rfl, hrd⟩ | ⟨rfl, heq, hrd⟩
              · have hb := seq_trueQ heq
                have HF := Lib.hid hrd
                clear HCS heq hrd
                go_wp2
                exact bodyPost_ret (results_row_tmp Tryd.results13 _ rfl (set7_blk HRB.out _ _ _ _ _ _ _) Tryd.underlying24 rfl (by kernel_rfl)) rfl (by rw [HPOST.out, HF.out]; exact ⟨rfl, set7_below HR8.out.b (Nat.le_refl _) _ _ _ _ _ _ _⟩)
              · have HF := Lib.hid hrd
                clear HCS hrd
                go_wp2
                exact bodyPost_ret (results_row_tmp Tryd.results13 _ rfl (set7_blk HRB.out _ _ _ _ _ _ _) Tryd.underlying24 rfl (by kernel_rfl)) rfl (by rw [HPOST.out, HF.out]; exact ⟨rfl, set7_below HR8.out.b (Nat.le_refl _) _ _ _ _ _ _ _⟩)
              · have hb := seq_falseQ heq
                have HF := Lib.hid hrd
                clear HCS heq hrd
                go_wp2
                exact bodyPost_ret (results_row_tmp Tryd.results13 _ rfl (set7_blk HRB.out _ _ _ _ _ _ _) Tryd.underlying24 rfl (by kernel_rfl)) rfl (by rw [HPOST.out, HF.out]; exact ⟨rfl, set7_below HR8.out.b (Nat.le_refl _) _ _ _ _ _ _ _⟩)
          · have hcq := candQ_k10 (l1 := l1) (l2 := l2) hK
            skip
            rw [hK] at HQ6
            have HCQ := Lib.hid hcq
            clear hcq hK
            have hx6 : Blk wr6 bx 24 #[.int .i64 10, .int .i64 0, .int .i64 0, .int .i64 0, .int .i64 0, .int .u32 0, .string ⟨#[]⟩] := HQ6.out.x
            obtain ⟨x0, x1, x2, x3, x4, x5, x6⟩ := ocells hx6
            have hlx := hx6.lt
            have HQ := Lib.hid (show QR w bx _ L ⟨10, 0, 0, 0, 0, 0, ⟨#[]⟩⟩ wr6 from HQ6.out)
            go_upto_region 40 with (fail)
            clear x0 x1 x2 x3 x4 x5 x6 hlx hx6
            generalize wr6 = WQ at *
            have HY := Lib.hid (HCQ.out)
            have hrg := HRG.out _ HY.out
            have HL := Lib.hid (fun W => refLine_any (W0 := W) ⟨10, 0, 0, 0, 0, 0, ⟨#[]⟩⟩ hrg.1)
            have hcs := HTL.out _ HY.out
            obtain ⟨tb, htb⟩ : ∃ tb, lineBy ⟨10, 0, 0, 0, 0, 0, ⟨#[]⟩⟩ = tb := ⟨_, rfl⟩
            obtain ⟨te, hte⟩ : ∃ te, lineEr ⟨10, 0, 0, 0, 0, 0, ⟨#[]⟩⟩ = te := ⟨_, rfl⟩
            rw [htb, hte] at HL hcs
            simp only at HL
            have HCS := Lib.hid hcs
            clear hcs htb hte HY HTL HNO HRG hrg
            obtain ⟨x0, x1, x2, x3, x4, x5, x6⟩ := ocells (show Blk WQ bx 24 #[.int .i64 10, .int .i64 0, .int .i64 0, .int .i64 0, .int .i64 0, .int .u32 0, .string ⟨#[]⟩] from HQ.out.x)
            have hlx := HQ.out.x.lt
            go_wp2_with fail
            refine (HL.out _).mono ?_
            rintro e W8 ⟨rfl, hb8⟩
            have HR8 := Lib.hid (HQ.out.step hb8)
            clear hb8 HQ HL x0 x1 x2 x3 x4 x5 x6 hlx
            obtain ⟨x0, x1, x2, x3, x4, x5, x6⟩ := ocells (show Blk W8 bx 24 #[.int .i64 10, .int .i64 0, .int .i64 0, .int .i64 0, .int .i64 0, .int .u32 0, .string ⟨#[]⟩] from HR8.out.x)
            obtain ⟨r0, r1, r2, r3, r4, r5, r6⟩ := ocells (show Blk W8 w.heap.size 24 #[.int .i64 0, .int .i64 0, .int .i64 0, .int .i64 0, .int .i64 0, .int .u32 0, .string ⟨#[]⟩] from HR8.out.r)
            have hlx := HR8.out.x.lt
            have hlr := HR8.out.r.lt
            have g0 := HR8.out.r.frozen 0
            have g1 := HR8.out.r.frozen 1
            have g2 := HR8.out.r.frozen 2
            have g3 := HR8.out.r.frozen 3
            have g4 := HR8.out.r.frozen 4
            have g5 := HR8.out.r.frozen 5
            have g6 := HR8.out.r.frozen 6
            have HRB := Lib.hid (show Blk W8 w.heap.size 24 #[.int .i64 0, .int .i64 0, .int .i64 0, .int .i64 0, .int .i64 0, .int .u32 0, .string ⟨#[]⟩] from HR8.out.r)
            rcases HCS.out with ⟨rfl, heq, hrd⟩ | ⟨rfl, hrd⟩ | ⟨rfl, heq, hrd⟩
            · have hb := seq_trueQ heq
              have HF := Lib.hid hrd
              clear HCS heq hrd
              go_wp2
              exact bodyPost_ret (results_row_tmp Tryd.results13 _ rfl (set7_blk HRB.out _ _ _ _ _ _ _) Tryd.underlying24 rfl (by kernel_rfl)) rfl (by rw [HPOST.out, HF.out]; exact ⟨rfl, set7_below HR8.out.b (Nat.le_refl _) _ _ _ _ _ _ _⟩)
            · have HF := Lib.hid hrd
              clear HCS hrd
              go_wp2
              exact bodyPost_ret (results_row_tmp Tryd.results13 _ rfl (set7_blk HRB.out _ _ _ _ _ _ _) Tryd.underlying24 rfl (by kernel_rfl)) rfl (by rw [HPOST.out, HF.out]; exact ⟨rfl, set7_below HR8.out.b (Nat.le_refl _) _ _ _ _ _ _ _⟩)
            · have hb := seq_falseQ heq
              have HF := Lib.hid hrd
              clear HCS heq hrd
              go_wp2
              exact bodyPost_ret (results_row_tmp Tryd.results13 _ rfl (set7_blk HRB.out _ _ _ _ _ _ _) Tryd.underlying24 rfl (by kernel_rfl)) rfl (by rw [HPOST.out, HF.out]; exact ⟨rfl, set7_below HR8.out.b (Nat.le_refl _) _ _ _ _ _ _ _⟩)
          · have hcq := candQ_k11 (l1 := l1) (l2 := l2) hK
            skip
            rw [hK] at HQ6
            have HCQ := Lib.hid hcq
            clear hcq hK
            have hx6 : Blk wr6 bx 24 #[.int .i64 11, .int .i64 0, .int .i64 0, .int .i64 0, .int .i64 0, .int .u32 0, .string ⟨#[]⟩] := HQ6.out.x
            obtain ⟨x0, x1, x2, x3, x4, x5, x6⟩ := ocells hx6
            have hlx := hx6.lt
            have HQ := Lib.hid (show QR w bx _ L ⟨11, 0, 0, 0, 0, 0, ⟨#[]⟩⟩ wr6 from HQ6.out)
            go_upto_region 40 with (fail)
            clear x0 x1 x2 x3 x4 x5 x6 hlx hx6
            generalize wr6 = WQ at *
            have HY := Lib.hid (HCQ.out)
            have hrg := HRG.out _ HY.out
            have HL := Lib.hid (fun W => refLine_any (W0 := W) ⟨11, 0, 0, 0, 0, 0, ⟨#[]⟩⟩ hrg.1)
            have hcs := HTL.out _ HY.out
            obtain ⟨tb, htb⟩ : ∃ tb, lineBy ⟨11, 0, 0, 0, 0, 0, ⟨#[]⟩⟩ = tb := ⟨_, rfl⟩
            obtain ⟨te, hte⟩ : ∃ te, lineEr ⟨11, 0, 0, 0, 0, 0, ⟨#[]⟩⟩ = te := ⟨_, rfl⟩
            rw [htb, hte] at HL hcs
            simp only at HL
            have HCS := Lib.hid hcs
            clear hcs htb hte HY HTL HNO HRG hrg
            obtain ⟨x0, x1, x2, x3, x4, x5, x6⟩ := ocells (show Blk WQ bx 24 #[.int .i64 11, .int .i64 0, .int .i64 0, .int .i64 0, .int .i64 0, .int .u32 0, .string ⟨#[]⟩] from HQ.out.x)
            have hlx := HQ.out.x.lt
            go_wp2_with fail
            refine (HL.out _).mono ?_
            rintro e W8 ⟨rfl, hb8⟩
            have HR8 := Lib.hid (HQ.out.step hb8)
            clear hb8 HQ HL x0 x1 x2 x3 x4 x5 x6 hlx
            obtain ⟨x0, x1, x2, x3, x4, x5, x6⟩ := ocells (show Blk W8 bx 24 #[.int .i64 11, .int .i64 0, .int .i64 0, .int .i64 0, .int .i64 0, .int .u32 0, .string ⟨#[]⟩] from HR8.out.x)
            obtain ⟨r0, r1, r2, r3, r4, r5, r6⟩ := ocells (show Blk W8 w.heap.size 24 #[.int .i64 0, .int .i64 0, .int .i64 0, .int .i64 0, .int .i64 0, .int .u32 0, .string ⟨#[]⟩] from HR8.out.r)
            have hlx := HR8.out.x.lt
            have hlr := HR8.out.r.lt
            have g0 := HR8.out.r.frozen 0
            have g1 := HR8.out.r.frozen 1
            have g2 := HR8.out.r.frozen 2
            have g3 := HR8.out.r.frozen 3
            have g4 := HR8.out.r.frozen 4
            have g5 := HR8.out.r.frozen 5
            have g6 := HR8.out.r.frozen 6
            have HRB := Lib.hid (show Blk W8 w.heap.size 24 #[.int .i64 0, .int .i64 0, .int .i64 0, .int .i64 0, .int .i64 0, .int .u32 0, .string ⟨#[]⟩] from HR8.out.r)
            rcases HCS.out with ⟨rfl, heq, hrd⟩ | ⟨rfl, hrd⟩ | ⟨rfl, heq, hrd⟩
            · have hb := seq_trueQ heq
              have HF := Lib.hid hrd
              clear HCS heq hrd
              go_wp2
              exact bodyPost_ret (results_row_tmp Tryd.results13 _ rfl (set7_blk HRB.out _ _ _ _ _ _ _) Tryd.underlying24 rfl (by kernel_rfl)) rfl (by rw [HPOST.out, HF.out]; exact ⟨rfl, set7_below HR8.out.b (Nat.le_refl _) _ _ _ _ _ _ _⟩)
            · have HF := Lib.hid hrd
              clear HCS hrd
              go_wp2
              exact bodyPost_ret (results_row_tmp Tryd.results13 _ rfl (set7_blk HRB.out _ _ _ _ _ _ _) Tryd.underlying24 rfl (by kernel_rfl)) rfl (by rw [HPOST.out, HF.out]; exact ⟨rfl, set7_below HR8.out.b (Nat.le_refl _) _ _ _ _ _ _ _⟩)
            · have hb := seq_falseQ heq
              have HF := Lib.hid hrd
              clear HCS heq hrd
              go_wp2
              exact bodyPost_ret (results_row_tmp Tryd.results13 _ rfl (set7_blk HRB.out _ _ _ _ _ _ _) Tryd.underlying24 rfl (by kernel_rfl)) rfl (by rw [HPOST.out, HF.out]; exact ⟨rfl, set7_below HR8.out.b (Nat.le_refl _) _ _ _ _ _ _ _⟩)
          · have hcq := candQ_k12 (l1 := l1) (l2 := l2) hK
            skip
            rw [hK] at HQ6
            have HCQ := Lib.hid hcq
            clear hcq hK
            have hx6 : Blk wr6 bx 24 #[.int .i64 12, .int .i64 0, .int .i64 0, .int .i64 0, .int .i64 0, .int .u32 0, .string ⟨#[]⟩] := HQ6.out.x
            obtain ⟨x0, x1, x2, x3, x4, x5, x6⟩ := ocells hx6
            have hlx := hx6.lt
            have HQ := Lib.hid (show QR w bx _ L ⟨12, 0, 0, 0, 0, 0, ⟨#[]⟩⟩ wr6 from HQ6.out)
            go_upto_region 40 with (fail)
            clear x0 x1 x2 x3 x4 x5 x6 hlx hx6
            generalize wr6 = WQ at *
            have HY := Lib.hid (HCQ.out)
            have hrg := HRG.out _ HY.out
            have HL := Lib.hid (fun W => refLine_any (W0 := W) ⟨12, 0, 0, 0, 0, 0, ⟨#[]⟩⟩ hrg.1)
            have hcs := HTL.out _ HY.out
            obtain ⟨tb, htb⟩ : ∃ tb, lineBy ⟨12, 0, 0, 0, 0, 0, ⟨#[]⟩⟩ = tb := ⟨_, rfl⟩
            obtain ⟨te, hte⟩ : ∃ te, lineEr ⟨12, 0, 0, 0, 0, 0, ⟨#[]⟩⟩ = te := ⟨_, rfl⟩
            rw [htb, hte] at HL hcs
            simp only at HL
            have HCS := Lib.hid hcs
            clear hcs htb hte HY HTL HNO HRG hrg
            obtain ⟨x0, x1, x2, x3, x4, x5, x6⟩ := ocells (show Blk WQ bx 24 #[.int .i64 12, .int .i64 0, .int .i64 0, .int .i64 0, .int .i64 0, .int .u32 0, .string ⟨#[]⟩] from HQ.out.x)
            have hlx := HQ.out.x.lt
            go_wp2_with fail
            refine (HL.out _).mono ?_
            rintro e W8 ⟨rfl, hb8⟩
            have HR8 := Lib.hid (HQ.out.step hb8)
            clear hb8 HQ HL x0 x1 x2 x3 x4 x5 x6 hlx
            obtain ⟨x0, x1, x2, x3, x4, x5, x6⟩ := ocells (show Blk W8 bx 24 #[.int .i64 12, .int .i64 0, .int .i64 0, .int .i64 0, .int .i64 0, .int .u32 0, .string ⟨#[]⟩] from HR8.out.x)
            obtain ⟨r0, r1, r2, r3, r4, r5, r6⟩ := ocells (show Blk W8 w.heap.size 24 #[.int .i64 0, .int .i64 0, .int .i64 0, .int .i64 0, .int .i64 0, .int .u32 0, .string ⟨#[]⟩] from HR8.out.r)
            have hlx := HR8.out.x.lt
            have hlr := HR8.out.r.lt
            have g0 := HR8.out.r.frozen 0
            have g1 := HR8.out.r.frozen 1
            have g2 := HR8.out.r.frozen 2
            have g3 := HR8.out.r.frozen 3
            have g4 := HR8.out.r.frozen 4
            have g5 := HR8.out.r.frozen 5
            have g6 := HR8.out.r.frozen 6
            have HRB := Lib.hid (show Blk W8 w.heap.size 24 #[.int .i64 0, .int .i64 0, .int .i64 0, .int .i64 0, .int .i64 0, .int .u32 0, .string ⟨#[]⟩] from HR8.out.r)
            rcases HCS.out with ⟨rfl, heq, hrd⟩ | ⟨rfl, hrd⟩ | ⟨rfl, heq, hrd⟩
            · have hb := seq_trueQ heq
              have HF := Lib.hid hrd
              clear HCS heq hrd
              go_wp2
              exact bodyPost_ret (results_row_tmp Tryd.results13 _ rfl (set7_blk HRB.out _ _ _ _ _ _ _) Tryd.underlying24 rfl (by kernel_rfl)) rfl (by rw [HPOST.out, HF.out]; exact ⟨rfl, set7_below HR8.out.b (Nat.le_refl _) _ _ _ _ _ _ _⟩)
            · have HF := Lib.hid hrd
              clear HCS hrd
              go_wp2
              exact bodyPost_ret (results_row_tmp Tryd.results13 _ rfl (set7_blk HRB.out _ _ _ _ _ _ _) Tryd.underlying24 rfl (by kernel_rfl)) rfl (by rw [HPOST.out, HF.out]; exact ⟨rfl, set7_below HR8.out.b (Nat.le_refl _) _ _ _ _ _ _ _⟩)
            · have hb := seq_falseQ heq
              have HF := Lib.hid hrd
              clear HCS heq hrd
              go_wp2
              exact bodyPost_ret (results_row_tmp Tryd.results13 _ rfl (set7_blk HRB.out _ _ _ _ _ _ _) Tryd.underlying24 rfl (by kernel_rfl)) rfl (by rw [HPOST.out, HF.out]; exact ⟨rfl, set7_below HR8.out.b (Nat.le_refl _) _ _ _ _ _ _ _⟩)
end Go.Proofs.YtgefnicpkfcghaaDoor
