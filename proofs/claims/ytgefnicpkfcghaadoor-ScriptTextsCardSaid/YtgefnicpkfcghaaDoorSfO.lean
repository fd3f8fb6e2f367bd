/-
  The document's script of any bytes. No condition but the bytes' number.
-/
import Derived.Test.YtgefnicpkfcghaaDoorScV
namespace Go.Proofs.YtgefnicpkfcghaaDoor
open Go.RowKit
set_option linter.unusedVariables false
set_option linter.unusedSimpArgs false
attribute [local go_sem] Oper.semAt_some

theorem byte_here {w : World} {b off : Nat} {l : List UInt8} (h : BytesAt w (some ⟨b, off, none⟩) l) {i : Nat} (hi : i < l.length) : b < w.heap.size ∧ w.cell? ⟨b, off + i, none⟩ = some (.int .u8 (byteN l i : Int)) := by
  obtain ⟨b', off', hA, hb, hc⟩ := byte_at h (List.getElem?_eq_getElem hi)
  injection hA with hA
  injection hA with e1 e2 _
  subst e1 e2
  refine ⟨hb, ?_⟩
  rw [hc]
  unfold byteN
  rw [List.getD_eq_getElem?_getD, List.getElem?_eq_getElem hi]
  rfl
theorem byte_some {w : World} {A : Option Addr} {l : List UInt8} (h : BytesAt w A l) (hl : 0 < l.length) : ∃ b off, A = some ⟨b, off, none⟩ := by
  obtain ⟨b, off, hA, _⟩ := byte_at h (List.getElem?_eq_getElem hl)
  exact ⟨b, off, hA⟩
theorem grown_none (V : World) (g : Nat) : V.grownBy V (some g) := ⟨rfl, rfl, rfl, Nat.le_refl _, fun _ _ _ => rfl⟩
theorem grown_one (V : World) (g i : Nat) (u : Value) : V.grownBy (V.setCell ⟨g, i, none⟩ u) (some g) :=
  ⟨rfl, rfl, rfl, by simp [World.setCell], fun k hk hkn => Below.heap_setCell V _ u k (fun e => hkn (by rw [e]))⟩
theorem grown_two (V : World) (g i j : Nat) (u v : Value) : V.grownBy ((V.setCell ⟨g, i, none⟩ u).setCell ⟨g, j, none⟩ v) (some g) :=
  ⟨rfl, rfl, rfl, by simp [World.setCell], fun k hk hkn => (Below.heap_setCell _ _ v k (fun e => hkn (by rw [e]))).trans (Below.heap_setCell V _ u k (fun e => hkn (by rw [e])))⟩

set_option maxRecDepth 100000 in
set_option maxHeartbeats 16000000 in
theorem refOf_any {w : World} (A : Option Addr) (bs : List UInt8) (ca : Nat) (hbl : bs.length ≤ 6000) (hx : BytesAt w A bs) :
    Calls Tryd.prog 25 #[.slice A bs.length ca] w fun e w' => ∃ v, e = .returned v ∧ OwnO w' w.heap.size v (ofL bs) ∧ Below w.heap.size w w' := by
  obtain ⟨i0, hi, hz0, hz1, hz2⟩ := info_parts infoO
  have HX := Lib.hid (fun W (hW : Below w.heap.size w W) => hx.below hW)
  clear hx
  have hb00 := Below.refl w.heap.size w
  have HO0 : Hid (OwnO w w.heap.size (.slice none 0 0) []) := World.ownsRow_nil _ _ _ _
  go_enter Tryd.func25, Tryd.ntmps25
  go_wp2_with fail
  go_loopw [3, 4] (fun o i wr => ∃ (k q : Nat) (acc : List O), i = .int .i64 (q : Int) ∧ q = 4 * k ∧ k ≤ bs.length / 4 ∧ acc.length = k ∧ Hid (acc = (List.range k).map (opK bs)) ∧ Hid (OwnO wr w.heap.size o acc) ∧ Below w.heap.size w wr) (fun _ i _ => bs.length - (intOf i).toNat)
  case atStart => exact ⟨0, 0, [], rfl, rfl, Nat.zero_le _, rfl, rfl, HO0, hb00⟩
  case round =>
    obtain ⟨k, q, acc, rfl, hq, hk, hacc, HACC, HO, hB⟩ := hrel
    clear HO0 hb00
    obtain ⟨Ao, co_, rfl, _, _⟩ := ownO_at HO.out
    have hs1 := hB.size
    have hqb : q ≤ 6000 := by omega
    by_cases hkl : q + 3 < bs.length
    · have hka : (q : Int) + 3 < (bs.length : Int) := by omega
      have hq0 : (0 : Int) ≤ (q : Int) := by omega
      have hal : (acc.length : Int) < 10000 := by omega
      obtain ⟨b, off, rfl⟩ := byte_some (HX.out _ hB) (by omega)
      obtain ⟨hbl0, c0⟩ := byte_here (HX.out _ hB) (i := q) (by omega)
      have c1 := (byte_here (HX.out _ hB) (i := q + 1) (by omega)).2
      have c2 := (byte_here (HX.out _ hB) (i := q + 2) (by omega)).2
      have C3 := Lib.hid (fun W hW => (byte_here (HX.out W hW) (i := q + 3) (by omega)))
      have C1 := Lib.hid (fun W hW => (byte_here (HX.out W hW) (i := q + 1) (by omega)).2)
      have C2 := Lib.hid (fun W hW => (byte_here (HX.out W hW) (i := q + 2) (by omega)).2)
      have l0 := byteN_lt bs q
      have l1 := byteN_lt bs (q + 1)
      have l2 := byteN_lt bs (q + 2)
      have l3 := byteN_lt bs (q + 3)
      have HOP : Hid (opK bs k = ofO (byteN bs q) (byteN bs (q + 1)) (byteN bs (q + 2)) (byteN bs (q + 3))) := by subst hq; rfl
      generalize byteN bs q = b0 at *
      generalize byteN bs (q + 1) = b1 at *
      generalize byteN bs (q + 2) = b2 at *
      generalize byteN bs (q + 3) = b3 at *
      have ht0 : (b0 : Int).tmod 12 = ((b0 % 12 : Nat) : Int) := (Int.ofNat_tmod b0 12).symm
      have ht1 : (b1 : Int).tmod 8 = ((b1 % 8 : Nat) : Int) := (Int.ofNat_tmod b1 8).symm
      have ht2 : (b2 : Int).tmod 8 = ((b2 % 8 : Nat) : Int) := (Int.ofNat_tmod b2 8).symm
      have ht3 : (b3 : Int).tmod 15 = ((b3 % 15 : Nat) : Int) := (Int.ofNat_tmod b3 15).symm
      have ht4 : (b1 : Int).tmod 4 = ((b1 % 4 : Nat) : Int) := (Int.ofNat_tmod b1 4).symm
      have hm1 : b1 % 8 < 8 := Nat.mod_lt _ (by decide)
      have hm2 : b2 % 8 < 8 := Nat.mod_lt _ (by decide)
      have hm3 : b3 % 15 < 15 := Nat.mod_lt _ (by decide)
      have hm4 : b1 % 4 < 4 := Nat.mod_lt _ (by decide)
      have hm0 : b0 % 12 < 12 := Nat.mod_lt _ (by decide)
      have HKK := Lib.hid (show kindOf4 b0 = ((b0 % 12 : Nat) : Int) + 1 from rfl)
      have HCASE := Lib.hid (kind4_cases b0)
      have HNE := Lib.hid (fun r e => (Array.getElem?_eq_some_iff.1 ((own_row HO.out r e).2.choose_spec).1).1)
      have HOB := Lib.hid (fun r e => (own_row HO.out r e).1)
      generalize b0 % 12 = k0 at *
      have hcv := one_byte (wr.alloc (.cells #[.int .i64 ((k0 : Int) + 1), .int .i64 0, .int .i64 0, .int .i64 0, .int .i64 0, .int .u32 0, .string ⟨#[]⟩] 24)) (97 + ((b1 % 4 : Nat) : Int)) b1 (by omega)
      simp only [World.size_alloc] at hcv
      obtain ⟨m1, hm1e⟩ : ∃ m1, b1 % 8 = m1 := ⟨_, rfl⟩
      obtain ⟨m2, hm2e⟩ : ∃ m2, b2 % 8 = m2 := ⟨_, rfl⟩
      obtain ⟨m3, hm3e⟩ : ∃ m3, b3 % 15 = m3 := ⟨_, rfl⟩
      rw [hm1e] at ht1 hm1
      rw [hm2e] at ht2 hm2
      rw [hm3e] at ht3 hm3
      have HM1 := Lib.hid hm1e
      have HM2 := Lib.hid hm2e
      have HM3 := Lib.hid hm3e
      clear hm1e hm2e hm3e
      obtain ⟨nb, hnb⟩ : ∃ nb, nmB b1 = nb := ⟨_, rfl⟩
      rw [hnb] at hcv
      have HNB := Lib.hid hnb
      clear hnb
      obtain ⟨q4, hq4⟩ : ∃ q4, b1 % 4 = q4 := ⟨_, rfl⟩
      rw [hq4] at ht4 hm4 hcv
      clear hq4
      have HQ := Lib.hid hq
      have HAL := Lib.hid hacc
      clear hq hacc
      go_upto_region 8 with (fail)
      obtain ⟨kk, hkk⟩ : ∃ kk : Int, kk = (k0 : Int) + 1 := ⟨_, rfl⟩
      have HKK2 := Lib.hid (HKK.out.trans hkk.symm)
      clear HKK
      rw [← hkk] at hcv ⊢
      have hX := (Blk.new wr 24 #[.int .i64 kk, .int .i64 0, .int .i64 0, .int .i64 0, .int .i64 0, .int .u32 0, .string ⟨#[]⟩]).alloc (.cells #[.int .u8 (97 + (q4 : Int))] 5)
      have hBV := (hB.alloc hs1 (.cells #[.int .i64 kk, .int .i64 0, .int .i64 0, .int .i64 0, .int .i64 0, .int .u32 0, .string ⟨#[]⟩] 24)).alloc (by simp; omega) (.cells #[.int .u8 (97 + (q4 : Int))] 5)
      have hOV := ownsRow_below HO.out (bl_2 wr (.cells #[.int .i64 kk, .int .i64 0, .int .i64 0, .int .i64 0, .int .i64 0, .int .u32 0, .string ⟨#[]⟩] 24) (.cells #[.int .u8 (97 + (q4 : Int))] 5))
      have HSZ : Hid (wr.heap.size + 2 = ((wr.alloc (.cells #[.int .i64 kk, .int .i64 0, .int .i64 0, .int .i64 0, .int .i64 0, .int .u32 0, .string ⟨#[]⟩] 24)).alloc (.cells #[.int .u8 (97 + (q4 : Int))] 5)).heap.size) := by simp [Hid]
      have HOV := Lib.hid hOV
      have HBV := Lib.hid hBV
      have hbx := hbl0
      clear hOV hBV HO hB hcv hkk c0 c1 c2 hbl0
      generalize ((wr.alloc (.cells #[.int .i64 kk, .int .i64 0, .int .i64 0, .int .i64 0, .int .i64 0, .int .u32 0, .string ⟨#[]⟩] 24)).alloc (.cells #[.int .u8 (97 + (q4 : Int))] 5)) = V at *
      generalize wr.heap.size = xb at *
      obtain ⟨hbl0, c3⟩ := C3.out _ HBV.out
      have c1 := C1.out _ HBV.out
      have c2 := C2.out _ HBV.out
      obtain ⟨x0, x1, x2, x3, x4, x5, x6⟩ := ocells hX
      have hfx := fun j => hX.frozen j
      have hxl := hX.lt
      have hbn : ¬ b = xb := by omega
      have hbm : ¬ xb = b := by omega
      clear C1 C2 C3
      rcases HCASE.out with hq9 | hq9 | hq9 | hq9 | hq9 | hq9 | hq9 | hq9 | hq9 | hq9 | hq9 | hq9
      · obtain rfl : kk = 1 := HKK2.out.symm.trans hq9
        have hR : V.grownBy ((V.setCell ⟨xb, 1, none⟩ (.int .i64 (m1 : Int))).setCell ⟨xb, 2, none⟩ (.int .i64 (b2 : Int))) (some xb) ∧ Blk ((V.setCell ⟨xb, 1, none⟩ (.int .i64 (m1 : Int))).setCell ⟨xb, 2, none⟩ (.int .i64 (b2 : Int))) xb 24 (ofO b0 b1 b2 b3).cells.toArray := by
          refine ⟨grown_two V xb _ _ _ _, ?_⟩
          have h := ((hX.set_ 1 (.int .i64 (m1 : Int))).set_ 2 (.int .i64 (b2 : Int)))
          have e : ofO b0 b1 b2 b3 = ⟨1, (m1 : Int), b2, 0, 0, 0, ⟨#[]⟩⟩ := by
            have g1 := HM1.out
            have g2 := HM2.out
            have g3 := HM3.out
            have g4 := HNB.out
            subst g1 g2 g3 g4
            rw [ofO_cases, hq9] <;> rfl
          rw [e]
          simpa [O.cells] using h
        obtain ⟨hg, hX9⟩ := hR
        have HO9 := Lib.hid (show OwnO ((V.setCell ⟨xb, 1, none⟩ (.int .i64 (m1 : Int))).setCell ⟨xb, 2, none⟩ (.int .i64 (b2 : Int))) w.heap.size (.slice Ao acc.length co_) acc from HOV.out.kept hg (.inr fun e => absurd (HNE.out xb e) (by omega)))
        have HB9 := Lib.hid (below_grown HBV.out hg (fun r e => by injection e with e; omega) (by have := HSZ.out; omega))
        have HX9 := Lib.hid hX9
        clear hq9 HKK2 hX hg hX9
        go_upto_region 31 with (fail)
        clear x0 x1 x2 x3 x4 x5 x6 c1 c2 c3 hfx hxl hbl0
        have hX9 := HX9.out
        clear HX9 HOV HBV HSZ
        generalize ((V.setCell ⟨xb, 1, none⟩ (.int .i64 (m1 : Int))).setCell ⟨xb, 2, none⟩ (.int .i64 (b2 : Int))) = wc at *
        have HY := Lib.hid HOP.out
        clear HOP
        generalize ofO b0 b1 b2 b3 = y at *
        obtain ⟨k_, co, nn, p, s_, m, nm⟩ := y
        obtain ⟨x0, x1, x2, x3, x4, x5, x6⟩ := ocells hX9
        have hxl := hX9.lt
        have hs2 := HB9.out.size
        have hown0 : wc.ownsRow w.heap.size 24 7 _ acc.length (acc.flatMap O.cells) := HO9.out
        have HN2 := Lib.hid (show acc ++ [(⟨k_, co, nn, p, s_, m, nm⟩ : O)] = (List.range (k + 1)).map (opK bs) from by rw [List.range_succ, List.map_append, ← HACC.out]; show _ = acc ++ [opK bs k]; rw [HY.out])
        clear hX9
        go_wp2_with (at_builtin; refine wpList_append_own _ rfl _ _ 37 rfl w.heap.size 24 i0 _ 7 64 Tryd.underlying37 hi hz0 hz1 hz2 rfl (by decide) _ _ _ rfl (hown0.alloc _) ⟨wc.heap.size, 0, none⟩ 1 1 (O.cells ⟨k_, co, nn, p, s_, m, nm⟩) rfl rfl (cells_new _ _ _) (by simp [O.cells, Value.oneCell']) (by unfold maxLen; omega) (by omega) (by simp; omega) ?_; intro v' w1 hown' hgrow _)
        have HOZ := Lib.hid (ownO_snoc (x := (⟨k_, co, nn, p, s_, m, nm⟩ : O)) hown')
        have HBZ := Lib.hid (below_grown (HB9.out.alloc hs2 _) hgrow (own_block HO9.out) (by simp; omega))
        clear hown' hgrow hown0 x0 x1 x2 x3 x4 x5 x6
        go_wp2
        go_roundw
        case rel => exact ⟨k + 1, q + 4, acc ++ [⟨k_, co, nn, p, s_, m, nm⟩], by go_num, by have := HQ.out; omega, by have := HQ.out; omega, by rw [List.length_append, HAL.out]; rfl, HN2, HOZ, HBZ.out⟩
        case measure => simp [intOf]; omega
      · obtain rfl : kk = 2 := HKK2.out.symm.trans hq9
        have hR : V.grownBy ((V.setCell ⟨xb, 1, none⟩ (.int .i64 (m1 : Int))).setCell ⟨xb, 3, none⟩ (.int .i64 ((m2 : Int) + 1))) (some xb) ∧ Blk ((V.setCell ⟨xb, 1, none⟩ (.int .i64 (m1 : Int))).setCell ⟨xb, 3, none⟩ (.int .i64 ((m2 : Int) + 1))) xb 24 (ofO b0 b1 b2 b3).cells.toArray := by
          refine ⟨grown_two V xb _ _ _ _, ?_⟩
          have h := ((hX.set_ 1 (.int .i64 (m1 : Int))).set_ 3 (.int .i64 ((m2 : Int) + 1)))
          have e : ofO b0 b1 b2 b3 = ⟨2, (m1 : Int), 0, (m2 : Int) + 1, 0, 0, ⟨#[]⟩⟩ := by
            have g1 := HM1.out
            have g2 := HM2.out
            have g3 := HM3.out
            have g4 := HNB.out
            subst g1 g2 g3 g4
            rw [ofO_cases, hq9] <;> rfl
          rw [e]
          simpa [O.cells] using h
        obtain ⟨hg, hX9⟩ := hR
        have HO9 := Lib.hid (show OwnO ((V.setCell ⟨xb, 1, none⟩ (.int .i64 (m1 : Int))).setCell ⟨xb, 3, none⟩ (.int .i64 ((m2 : Int) + 1))) w.heap.size (.slice Ao acc.length co_) acc from HOV.out.kept hg (.inr fun e => absurd (HNE.out xb e) (by omega)))
        have HB9 := Lib.hid (below_grown HBV.out hg (fun r e => by injection e with e; omega) (by have := HSZ.out; omega))
        have HX9 := Lib.hid hX9
        clear hq9 HKK2 hX hg hX9
        go_upto_region 31 with (fail)
        clear x0 x1 x2 x3 x4 x5 x6 c1 c2 c3 hfx hxl hbl0
        have hX9 := HX9.out
        clear HX9 HOV HBV HSZ
        generalize ((V.setCell ⟨xb, 1, none⟩ (.int .i64 (m1 : Int))).setCell ⟨xb, 3, none⟩ (.int .i64 ((m2 : Int) + 1))) = wc at *
        have HY := Lib.hid HOP.out
        clear HOP
        generalize ofO b0 b1 b2 b3 = y at *
        obtain ⟨k_, co, nn, p, s_, m, nm⟩ := y
        obtain ⟨x0, x1, x2, x3, x4, x5, x6⟩ := ocells hX9
        have hxl := hX9.lt
        have hs2 := HB9.out.size
        have hown0 : wc.ownsRow w.heap.size 24 7 _ acc.length (acc.flatMap O.cells) := HO9.out
        have HN2 := Lib.hid (show acc ++ [(⟨k_, co, nn, p, s_, m, nm⟩ : O)] = (List.range (k + 1)).map (opK bs) from by rw [List.range_succ, List.map_append, ← HACC.out]; show _ = acc ++ [opK bs k]; rw [HY.out])
        clear hX9
        go_wp2_with (at_builtin; refine wpList_append_own _ rfl _ _ 37 rfl w.heap.size 24 i0 _ 7 64 Tryd.underlying37 hi hz0 hz1 hz2 rfl (by decide) _ _ _ rfl (hown0.alloc _) ⟨wc.heap.size, 0, none⟩ 1 1 (O.cells ⟨k_, co, nn, p, s_, m, nm⟩) rfl rfl (cells_new _ _ _) (by simp [O.cells, Value.oneCell']) (by unfold maxLen; omega) (by omega) (by simp; omega) ?_; intro v' w1 hown' hgrow _)
        have HOZ := Lib.hid (ownO_snoc (x := (⟨k_, co, nn, p, s_, m, nm⟩ : O)) hown')
        have HBZ := Lib.hid (below_grown (HB9.out.alloc hs2 _) hgrow (own_block HO9.out) (by simp; omega))
        clear hown' hgrow hown0 x0 x1 x2 x3 x4 x5 x6
        go_wp2
        go_roundw
        case rel => exact ⟨k + 1, q + 4, acc ++ [⟨k_, co, nn, p, s_, m, nm⟩], by go_num, by have := HQ.out; omega, by have := HQ.out; omega, by rw [List.length_append, HAL.out]; rfl, HN2, HOZ, HBZ.out⟩
        case measure => simp [intOf]; omega
      · obtain rfl : kk = 3 := HKK2.out.symm.trans hq9
        have hR : V.grownBy V (some xb) ∧ Blk V xb 24 (ofO b0 b1 b2 b3).cells.toArray := by
          refine ⟨grown_none V xb, ?_⟩
          have h := hX
          have e : ofO b0 b1 b2 b3 = ⟨3, 0, 0, 0, 0, 0, ⟨#[]⟩⟩ := by
            have g1 := HM1.out
            have g2 := HM2.out
            have g3 := HM3.out
            have g4 := HNB.out
            subst g1 g2 g3 g4
            rw [ofO_cases, hq9] <;> rfl
          rw [e]
          simpa [O.cells] using h
        obtain ⟨hg, hX9⟩ := hR
        have HO9 := Lib.hid (show OwnO V w.heap.size (.slice Ao acc.length co_) acc from HOV.out.kept hg (.inr fun e => absurd (HNE.out xb e) (by omega)))
        have HB9 := Lib.hid (below_grown HBV.out hg (fun r e => by injection e with e; omega) (by have := HSZ.out; omega))
        have HX9 := Lib.hid hX9
        clear hq9 HKK2 hX hg hX9
        go_upto_region 31 with (fail)
        clear x0 x1 x2 x3 x4 x5 x6 c1 c2 c3 hfx hxl hbl0
        have hX9 := HX9.out
        clear HX9 HOV HBV HSZ
        generalize V = wc at *
        have HY := Lib.hid HOP.out
        clear HOP
        generalize ofO b0 b1 b2 b3 = y at *
        obtain ⟨k_, co, nn, p, s_, m, nm⟩ := y
        obtain ⟨x0, x1, x2, x3, x4, x5, x6⟩ := ocells hX9
        have hxl := hX9.lt
        have hs2 := HB9.out.size
        have hown0 : wc.ownsRow w.heap.size 24 7 _ acc.length (acc.flatMap O.cells) := HO9.out
        have HN2 := Lib.hid (show acc ++ [(⟨k_, co, nn, p, s_, m, nm⟩ : O)] = (List.range (k + 1)).map (opK bs) from by rw [List.range_succ, List.map_append, ← HACC.out]; show _ = acc ++ [opK bs k]; rw [HY.out])
        clear hX9
        go_wp2_with (at_builtin; refine wpList_append_own _ rfl _ _ 37 rfl w.heap.size 24 i0 _ 7 64 Tryd.underlying37 hi hz0 hz1 hz2 rfl (by decide) _ _ _ rfl (hown0.alloc _) ⟨wc.heap.size, 0, none⟩ 1 1 (O.cells ⟨k_, co, nn, p, s_, m, nm⟩) rfl rfl (cells_new _ _ _) (by simp [O.cells, Value.oneCell']) (by unfold maxLen; omega) (by omega) (by simp; omega) ?_; intro v' w1 hown' hgrow _)
        have HOZ := Lib.hid (ownO_snoc (x := (⟨k_, co, nn, p, s_, m, nm⟩ : O)) hown')
        have HBZ := Lib.hid (below_grown (HB9.out.alloc hs2 _) hgrow (own_block HO9.out) (by simp; omega))
        clear hown' hgrow hown0 x0 x1 x2 x3 x4 x5 x6
        go_wp2
        go_roundw
        case rel => exact ⟨k + 1, q + 4, acc ++ [⟨k_, co, nn, p, s_, m, nm⟩], by go_num, by have := HQ.out; omega, by have := HQ.out; omega, by rw [List.length_append, HAL.out]; rfl, HN2, HOZ, HBZ.out⟩
        case measure => simp [intOf]; omega
      · obtain rfl : kk = 4 := HKK2.out.symm.trans hq9
        have hR : V.grownBy (V.setCell ⟨xb, 1, none⟩ (.int .i64 (m1 : Int))) (some xb) ∧ Blk (V.setCell ⟨xb, 1, none⟩ (.int .i64 (m1 : Int))) xb 24 (ofO b0 b1 b2 b3).cells.toArray := by
          refine ⟨grown_one V xb _ _, ?_⟩
          have h := (hX.set_ 1 (.int .i64 (m1 : Int)))
          have e : ofO b0 b1 b2 b3 = ⟨4, (m1 : Int), 0, 0, 0, 0, ⟨#[]⟩⟩ := by
            have g1 := HM1.out
            have g2 := HM2.out
            have g3 := HM3.out
            have g4 := HNB.out
            subst g1 g2 g3 g4
            rw [ofO_cases, hq9] <;> rfl
          rw [e]
          simpa [O.cells] using h
        obtain ⟨hg, hX9⟩ := hR
        have HO9 := Lib.hid (show OwnO (V.setCell ⟨xb, 1, none⟩ (.int .i64 (m1 : Int))) w.heap.size (.slice Ao acc.length co_) acc from HOV.out.kept hg (.inr fun e => absurd (HNE.out xb e) (by omega)))
        have HB9 := Lib.hid (below_grown HBV.out hg (fun r e => by injection e with e; omega) (by have := HSZ.out; omega))
        have HX9 := Lib.hid hX9
        clear hq9 HKK2 hX hg hX9
        go_upto_region 31 with (fail)
        clear x0 x1 x2 x3 x4 x5 x6 c1 c2 c3 hfx hxl hbl0
        have hX9 := HX9.out
        clear HX9 HOV HBV HSZ
        generalize (V.setCell ⟨xb, 1, none⟩ (.int .i64 (m1 : Int))) = wc at *
        have HY := Lib.hid HOP.out
        clear HOP
        generalize ofO b0 b1 b2 b3 = y at *
        obtain ⟨k_, co, nn, p, s_, m, nm⟩ := y
        obtain ⟨x0, x1, x2, x3, x4, x5, x6⟩ := ocells hX9
        have hxl := hX9.lt
        have hs2 := HB9.out.size
        have hown0 : wc.ownsRow w.heap.size 24 7 _ acc.length (acc.flatMap O.cells) := HO9.out
        have HN2 := Lib.hid (show acc ++ [(⟨k_, co, nn, p, s_, m, nm⟩ : O)] = (List.range (k + 1)).map (opK bs) from by rw [List.range_succ, List.map_append, ← HACC.out]; show _ = acc ++ [opK bs k]; rw [HY.out])
        clear hX9
        go_wp2_with (at_builtin; refine wpList_append_own _ rfl _ _ 37 rfl w.heap.size 24 i0 _ 7 64 Tryd.underlying37 hi hz0 hz1 hz2 rfl (by decide) _ _ _ rfl (hown0.alloc _) ⟨wc.heap.size, 0, none⟩ 1 1 (O.cells ⟨k_, co, nn, p, s_, m, nm⟩) rfl rfl (cells_new _ _ _) (by simp [O.cells, Value.oneCell']) (by unfold maxLen; omega) (by omega) (by simp; omega) ?_; intro v' w1 hown' hgrow _)
        have HOZ := Lib.hid (ownO_snoc (x := (⟨k_, co, nn, p, s_, m, nm⟩ : O)) hown')
        have HBZ := Lib.hid (below_grown (HB9.out.alloc hs2 _) hgrow (own_block HO9.out) (by simp; omega))
        clear hown' hgrow hown0 x0 x1 x2 x3 x4 x5 x6
        go_wp2
        go_roundw
        case rel => exact ⟨k + 1, q + 4, acc ++ [⟨k_, co, nn, p, s_, m, nm⟩], by go_num, by have := HQ.out; omega, by have := HQ.out; omega, by rw [List.length_append, HAL.out]; rfl, HN2, HOZ, HBZ.out⟩
        case measure => simp [intOf]; omega
      · obtain rfl : kk = 5 := HKK2.out.symm.trans hq9
        have hR : V.grownBy ((V.setCell ⟨xb, 3, none⟩ (.int .i64 ((m2 : Int) + 1))).setCell ⟨xb, 4, none⟩ (.int .i64 ((m3 : Int) + 1))) (some xb) ∧ Blk ((V.setCell ⟨xb, 3, none⟩ (.int .i64 ((m2 : Int) + 1))).setCell ⟨xb, 4, none⟩ (.int .i64 ((m3 : Int) + 1))) xb 24 (ofO b0 b1 b2 b3).cells.toArray := by
          refine ⟨grown_two V xb _ _ _ _, ?_⟩
          have h := ((hX.set_ 3 (.int .i64 ((m2 : Int) + 1))).set_ 4 (.int .i64 ((m3 : Int) + 1)))
          have e : ofO b0 b1 b2 b3 = ⟨5, 0, 0, (m2 : Int) + 1, (m3 : Int) + 1, 0, ⟨#[]⟩⟩ := by
            have g1 := HM1.out
            have g2 := HM2.out
            have g3 := HM3.out
            have g4 := HNB.out
            subst g1 g2 g3 g4
            rw [ofO_cases, hq9] <;> rfl
          rw [e]
          simpa [O.cells] using h
        obtain ⟨hg, hX9⟩ := hR
        have HO9 := Lib.hid (show OwnO ((V.setCell ⟨xb, 3, none⟩ (.int .i64 ((m2 : Int) + 1))).setCell ⟨xb, 4, none⟩ (.int .i64 ((m3 : Int) + 1))) w.heap.size (.slice Ao acc.length co_) acc from HOV.out.kept hg (.inr fun e => absurd (HNE.out xb e) (by omega)))
        have HB9 := Lib.hid (below_grown HBV.out hg (fun r e => by injection e with e; omega) (by have := HSZ.out; omega))
        have HX9 := Lib.hid hX9
        clear hq9 HKK2 hX hg hX9
        go_upto_region 31 with (fail)
        clear x0 x1 x2 x3 x4 x5 x6 c1 c2 c3 hfx hxl hbl0
        have hX9 := HX9.out
        clear HX9 HOV HBV HSZ
        generalize ((V.setCell ⟨xb, 3, none⟩ (.int .i64 ((m2 : Int) + 1))).setCell ⟨xb, 4, none⟩ (.int .i64 ((m3 : Int) + 1))) = wc at *
        have HY := Lib.hid HOP.out
        clear HOP
        generalize ofO b0 b1 b2 b3 = y at *
        obtain ⟨k_, co, nn, p, s_, m, nm⟩ := y
        obtain ⟨x0, x1, x2, x3, x4, x5, x6⟩ := ocells hX9
        have hxl := hX9.lt
        have hs2 := HB9.out.size
        have hown0 : wc.ownsRow w.heap.size 24 7 _ acc.length (acc.flatMap O.cells) := HO9.out
        have HN2 := Lib.hid (show acc ++ [(⟨k_, co, nn, p, s_, m, nm⟩ : O)] = (List.range (k + 1)).map (opK bs) from by rw [List.range_succ, List.map_append, ← HACC.out]; show _ = acc ++ [opK bs k]; rw [HY.out])
        clear hX9
        go_wp2_with (at_builtin; refine wpList_append_own _ rfl _ _ 37 rfl w.heap.size 24 i0 _ 7 64 Tryd.underlying37 hi hz0 hz1 hz2 rfl (by decide) _ _ _ rfl (hown0.alloc _) ⟨wc.heap.size, 0, none⟩ 1 1 (O.cells ⟨k_, co, nn, p, s_, m, nm⟩) rfl rfl (cells_new _ _ _) (by simp [O.cells, Value.oneCell']) (by unfold maxLen; omega) (by omega) (by simp; omega) ?_; intro v' w1 hown' hgrow _)
        have HOZ := Lib.hid (ownO_snoc (x := (⟨k_, co, nn, p, s_, m, nm⟩ : O)) hown')
        have HBZ := Lib.hid (below_grown (HB9.out.alloc hs2 _) hgrow (own_block HO9.out) (by simp; omega))
        clear hown' hgrow hown0 x0 x1 x2 x3 x4 x5 x6
        go_wp2
        go_roundw
        case rel => exact ⟨k + 1, q + 4, acc ++ [⟨k_, co, nn, p, s_, m, nm⟩], by go_num, by have := HQ.out; omega, by have := HQ.out; omega, by rw [List.length_append, HAL.out]; rfl, HN2, HOZ, HBZ.out⟩
        case measure => simp [intOf]; omega
      · obtain rfl : kk = 6 := HKK2.out.symm.trans hq9
        have hR : V.grownBy ((V.setCell ⟨xb, 3, none⟩ (.int .i64 ((m2 : Int) + 1))).setCell ⟨xb, 6, none⟩ (.string nb)) (some xb) ∧ Blk ((V.setCell ⟨xb, 3, none⟩ (.int .i64 ((m2 : Int) + 1))).setCell ⟨xb, 6, none⟩ (.string nb)) xb 24 (ofO b0 b1 b2 b3).cells.toArray := by
          refine ⟨grown_two V xb _ _ _ _, ?_⟩
          have h := ((hX.set_ 3 (.int .i64 ((m2 : Int) + 1))).set_ 6 (.string nb))
          have e : ofO b0 b1 b2 b3 = ⟨6, 0, 0, (m2 : Int) + 1, 0, 0, nb⟩ := by
            have g1 := HM1.out
            have g2 := HM2.out
            have g3 := HM3.out
            have g4 := HNB.out
            subst g1 g2 g3 g4
            rw [ofO_cases, hq9] <;> rfl
          rw [e]
          simpa [O.cells] using h
        obtain ⟨hg, hX9⟩ := hR
        have HO9 := Lib.hid (show OwnO ((V.setCell ⟨xb, 3, none⟩ (.int .i64 ((m2 : Int) + 1))).setCell ⟨xb, 6, none⟩ (.string nb)) w.heap.size (.slice Ao acc.length co_) acc from HOV.out.kept hg (.inr fun e => absurd (HNE.out xb e) (by omega)))
        have HB9 := Lib.hid (below_grown HBV.out hg (fun r e => by injection e with e; omega) (by have := HSZ.out; omega))
        have HX9 := Lib.hid hX9
        clear hq9 HKK2 hX hg hX9
        go_upto_region 31 with (fail)
        clear x0 x1 x2 x3 x4 x5 x6 c1 c2 c3 hfx hxl hbl0
        have hX9 := HX9.out
        clear HX9 HOV HBV HSZ
        generalize ((V.setCell ⟨xb, 3, none⟩ (.int .i64 ((m2 : Int) + 1))).setCell ⟨xb, 6, none⟩ (.string nb)) = wc at *
        have HY := Lib.hid HOP.out
        clear HOP
        generalize ofO b0 b1 b2 b3 = y at *
        obtain ⟨k_, co, nn, p, s_, m, nm⟩ := y
        obtain ⟨x0, x1, x2, x3, x4, x5, x6⟩ := ocells hX9
        have hxl := hX9.lt
        have hs2 := HB9.out.size
        have hown0 : wc.ownsRow w.heap.size 24 7 _ acc.length (acc.flatMap O.cells) := HO9.out
        have HN2 := Lib.hid (show acc ++ [(⟨k_, co, nn, p, s_, m, nm⟩ : O)] = (List.range (k + 1)).map (opK bs) from by rw [List.range_succ, List.map_append, ← HACC.out]; show _ = acc ++ [opK bs k]; rw [HY.out])
        clear hX9
        go_wp2_with (at_builtin; refine wpList_append_own _ rfl _ _ 37 rfl w.heap.size 24 i0 _ 7 64 Tryd.underlying37 hi hz0 hz1 hz2 rfl (by decide) _ _ _ rfl (hown0.alloc _) ⟨wc.heap.size, 0, none⟩ 1 1 (O.cells ⟨k_, co, nn, p, s_, m, nm⟩) rfl rfl (cells_new _ _ _) (by simp [O.cells, Value.oneCell']) (by unfold maxLen; omega) (by omega) (by simp; omega) ?_; intro v' w1 hown' hgrow _)
        have HOZ := Lib.hid (ownO_snoc (x := (⟨k_, co, nn, p, s_, m, nm⟩ : O)) hown')
        have HBZ := Lib.hid (below_grown (HB9.out.alloc hs2 _) hgrow (own_block HO9.out) (by simp; omega))
        clear hown' hgrow hown0 x0 x1 x2 x3 x4 x5 x6
        go_wp2
        go_roundw
        case rel => exact ⟨k + 1, q + 4, acc ++ [⟨k_, co, nn, p, s_, m, nm⟩], by go_num, by have := HQ.out; omega, by have := HQ.out; omega, by rw [List.length_append, HAL.out]; rfl, HN2, HOZ, HBZ.out⟩
        case measure => simp [intOf]; omega
      · obtain rfl : kk = 7 := HKK2.out.symm.trans hq9
        have hR : V.grownBy (V.setCell ⟨xb, 3, none⟩ (.int .i64 ((m2 : Int) + 1))) (some xb) ∧ Blk (V.setCell ⟨xb, 3, none⟩ (.int .i64 ((m2 : Int) + 1))) xb 24 (ofO b0 b1 b2 b3).cells.toArray := by
          refine ⟨grown_one V xb _ _, ?_⟩
          have h := (hX.set_ 3 (.int .i64 ((m2 : Int) + 1)))
          have e : ofO b0 b1 b2 b3 = ⟨7, 0, 0, (m2 : Int) + 1, 0, 0, ⟨#[]⟩⟩ := by
            have g1 := HM1.out
            have g2 := HM2.out
            have g3 := HM3.out
            have g4 := HNB.out
            subst g1 g2 g3 g4
            rw [ofO_cases, hq9] <;> rfl
          rw [e]
          simpa [O.cells] using h
        obtain ⟨hg, hX9⟩ := hR
        have HO9 := Lib.hid (show OwnO (V.setCell ⟨xb, 3, none⟩ (.int .i64 ((m2 : Int) + 1))) w.heap.size (.slice Ao acc.length co_) acc from HOV.out.kept hg (.inr fun e => absurd (HNE.out xb e) (by omega)))
        have HB9 := Lib.hid (below_grown HBV.out hg (fun r e => by injection e with e; omega) (by have := HSZ.out; omega))
        have HX9 := Lib.hid hX9
        clear hq9 HKK2 hX hg hX9
        go_upto_region 31 with (fail)
        clear x0 x1 x2 x3 x4 x5 x6 c1 c2 c3 hfx hxl hbl0
        have hX9 := HX9.out
        clear HX9 HOV HBV HSZ
        generalize (V.setCell ⟨xb, 3, none⟩ (.int .i64 ((m2 : Int) + 1))) = wc at *
        have HY := Lib.hid HOP.out
        clear HOP
        generalize ofO b0 b1 b2 b3 = y at *
        obtain ⟨k_, co, nn, p, s_, m, nm⟩ := y
        obtain ⟨x0, x1, x2, x3, x4, x5, x6⟩ := ocells hX9
        have hxl := hX9.lt
        have hs2 := HB9.out.size
        have hown0 : wc.ownsRow w.heap.size 24 7 _ acc.length (acc.flatMap O.cells) := HO9.out
        have HN2 := Lib.hid (show acc ++ [(⟨k_, co, nn, p, s_, m, nm⟩ : O)] = (List.range (k + 1)).map (opK bs) from by rw [List.range_succ, List.map_append, ← HACC.out]; show _ = acc ++ [opK bs k]; rw [HY.out])
        clear hX9
        go_wp2_with (at_builtin; refine wpList_append_own _ rfl _ _ 37 rfl w.heap.size 24 i0 _ 7 64 Tryd.underlying37 hi hz0 hz1 hz2 rfl (by decide) _ _ _ rfl (hown0.alloc _) ⟨wc.heap.size, 0, none⟩ 1 1 (O.cells ⟨k_, co, nn, p, s_, m, nm⟩) rfl rfl (cells_new _ _ _) (by simp [O.cells, Value.oneCell']) (by unfold maxLen; omega) (by omega) (by simp; omega) ?_; intro v' w1 hown' hgrow _)
        have HOZ := Lib.hid (ownO_snoc (x := (⟨k_, co, nn, p, s_, m, nm⟩ : O)) hown')
        have HBZ := Lib.hid (below_grown (HB9.out.alloc hs2 _) hgrow (own_block HO9.out) (by simp; omega))
        clear hown' hgrow hown0 x0 x1 x2 x3 x4 x5 x6
        go_wp2
        go_roundw
        case rel => exact ⟨k + 1, q + 4, acc ++ [⟨k_, co, nn, p, s_, m, nm⟩], by go_num, by have := HQ.out; omega, by have := HQ.out; omega, by rw [List.length_append, HAL.out]; rfl, HN2, HOZ, HBZ.out⟩
        case measure => simp [intOf]; omega
      · obtain rfl : kk = 8 := HKK2.out.symm.trans hq9
        have hR : V.grownBy ((V.setCell ⟨xb, 6, none⟩ (.string nb)).setCell ⟨xb, 5, none⟩ (.int .u32 (b3 : Int))) (some xb) ∧ Blk ((V.setCell ⟨xb, 6, none⟩ (.string nb)).setCell ⟨xb, 5, none⟩ (.int .u32 (b3 : Int))) xb 24 (ofO b0 b1 b2 b3).cells.toArray := by
          refine ⟨grown_two V xb _ _ _ _, ?_⟩
          have h := ((hX.set_ 6 (.string nb)).set_ 5 (.int .u32 (b3 : Int)))
          have e : ofO b0 b1 b2 b3 = ⟨8, 0, 0, 0, 0, b3, nb⟩ := by
            have g1 := HM1.out
            have g2 := HM2.out
            have g3 := HM3.out
            have g4 := HNB.out
            subst g1 g2 g3 g4
            rw [ofO_cases, hq9] <;> rfl
          rw [e]
          simpa [O.cells] using h
        obtain ⟨hg, hX9⟩ := hR
        have HO9 := Lib.hid (show OwnO ((V.setCell ⟨xb, 6, none⟩ (.string nb)).setCell ⟨xb, 5, none⟩ (.int .u32 (b3 : Int))) w.heap.size (.slice Ao acc.length co_) acc from HOV.out.kept hg (.inr fun e => absurd (HNE.out xb e) (by omega)))
        have HB9 := Lib.hid (below_grown HBV.out hg (fun r e => by injection e with e; omega) (by have := HSZ.out; omega))
        have HX9 := Lib.hid hX9
        clear hq9 HKK2 hX hg hX9
        go_upto_region 31 with (fail)
        clear x0 x1 x2 x3 x4 x5 x6 c1 c2 c3 hfx hxl hbl0
        have hX9 := HX9.out
        clear HX9 HOV HBV HSZ
        generalize ((V.setCell ⟨xb, 6, none⟩ (.string nb)).setCell ⟨xb, 5, none⟩ (.int .u32 (b3 : Int))) = wc at *
        have HY := Lib.hid HOP.out
        clear HOP
        generalize ofO b0 b1 b2 b3 = y at *
        obtain ⟨k_, co, nn, p, s_, m, nm⟩ := y
        obtain ⟨x0, x1, x2, x3, x4, x5, x6⟩ := ocells hX9
        have hxl := hX9.lt
        have hs2 := HB9.out.size
        have hown0 : wc.ownsRow w.heap.size 24 7 _ acc.length (acc.flatMap O.cells) := HO9.out
        have HN2 := Lib.hid (show acc ++ [(⟨k_, co, nn, p, s_, m, nm⟩ : O)] = (List.range (k + 1)).map (opK bs) from by rw [List.range_succ, List.map_append, ← HACC.out]; show _ = acc ++ [opK bs k]; rw [HY.out])
        clear hX9
        go_wp2_with (at_builtin; refine wpList_append_own _ rfl _ _ 37 rfl w.heap.size 24 i0 _ 7 64 Tryd.underlying37 hi hz0 hz1 hz2 rfl (by decide) _ _ _ rfl (hown0.alloc _) ⟨wc.heap.size, 0, none⟩ 1 1 (O.cells ⟨k_, co, nn, p, s_, m, nm⟩) rfl rfl (cells_new _ _ _) (by simp [O.cells, Value.oneCell']) (by unfold maxLen; omega) (by omega) (by simp; omega) ?_; intro v' w1 hown' hgrow _)
        have HOZ := Lib.hid (ownO_snoc (x := (⟨k_, co, nn, p, s_, m, nm⟩ : O)) hown')
        have HBZ := Lib.hid (below_grown (HB9.out.alloc hs2 _) hgrow (own_block HO9.out) (by simp; omega))
        clear hown' hgrow hown0 x0 x1 x2 x3 x4 x5 x6
        go_wp2
        go_roundw
        case rel => exact ⟨k + 1, q + 4, acc ++ [⟨k_, co, nn, p, s_, m, nm⟩], by go_num, by have := HQ.out; omega, by have := HQ.out; omega, by rw [List.length_append, HAL.out]; rfl, HN2, HOZ, HBZ.out⟩
        case measure => simp [intOf]; omega
      · obtain rfl : kk = 9 := HKK2.out.symm.trans hq9
        have hR : V.grownBy ((V.setCell ⟨xb, 3, none⟩ (.int .i64 ((m2 : Int) + 1))).setCell ⟨xb, 5, none⟩ (.int .u32 (b3 : Int))) (some xb) ∧ Blk ((V.setCell ⟨xb, 3, none⟩ (.int .i64 ((m2 : Int) + 1))).setCell ⟨xb, 5, none⟩ (.int .u32 (b3 : Int))) xb 24 (ofO b0 b1 b2 b3).cells.toArray := by
          refine ⟨grown_two V xb _ _ _ _, ?_⟩
          have h := ((hX.set_ 3 (.int .i64 ((m2 : Int) + 1))).set_ 5 (.int .u32 (b3 : Int)))
          have e : ofO b0 b1 b2 b3 = ⟨9, 0, 0, (m2 : Int) + 1, 0, b3, ⟨#[]⟩⟩ := by
            have g1 := HM1.out
            have g2 := HM2.out
            have g3 := HM3.out
            have g4 := HNB.out
            subst g1 g2 g3 g4
            rw [ofO_cases, hq9] <;> rfl
          rw [e]
          simpa [O.cells] using h
        obtain ⟨hg, hX9⟩ := hR
        have HO9 := Lib.hid (show OwnO ((V.setCell ⟨xb, 3, none⟩ (.int .i64 ((m2 : Int) + 1))).setCell ⟨xb, 5, none⟩ (.int .u32 (b3 : Int))) w.heap.size (.slice Ao acc.length co_) acc from HOV.out.kept hg (.inr fun e => absurd (HNE.out xb e) (by omega)))
        have HB9 := Lib.hid (below_grown HBV.out hg (fun r e => by injection e with e; omega) (by have := HSZ.out; omega))
        have HX9 := Lib.hid hX9
        clear hq9 HKK2 hX hg hX9
        go_upto_region 31 with (fail)
        clear x0 x1 x2 x3 x4 x5 x6 c1 c2 c3 hfx hxl hbl0
        have hX9 := HX9.out
        clear HX9 HOV HBV HSZ
        generalize ((V.setCell ⟨xb, 3, none⟩ (.int .i64 ((m2 : Int) + 1))).setCell ⟨xb, 5, none⟩ (.int .u32 (b3 : Int))) = wc at *
        have HY := Lib.hid HOP.out
        clear HOP
        generalize ofO b0 b1 b2 b3 = y at *
        obtain ⟨k_, co, nn, p, s_, m, nm⟩ := y
        obtain ⟨x0, x1, x2, x3, x4, x5, x6⟩ := ocells hX9
        have hxl := hX9.lt
        have hs2 := HB9.out.size
        have hown0 : wc.ownsRow w.heap.size 24 7 _ acc.length (acc.flatMap O.cells) := HO9.out
        have HN2 := Lib.hid (show acc ++ [(⟨k_, co, nn, p, s_, m, nm⟩ : O)] = (List.range (k + 1)).map (opK bs) from by rw [List.range_succ, List.map_append, ← HACC.out]; show _ = acc ++ [opK bs k]; rw [HY.out])
        clear hX9
        go_wp2_with (at_builtin; refine wpList_append_own _ rfl _ _ 37 rfl w.heap.size 24 i0 _ 7 64 Tryd.underlying37 hi hz0 hz1 hz2 rfl (by decide) _ _ _ rfl (hown0.alloc _) ⟨wc.heap.size, 0, none⟩ 1 1 (O.cells ⟨k_, co, nn, p, s_, m, nm⟩) rfl rfl (cells_new _ _ _) (by simp [O.cells, Value.oneCell']) (by unfold maxLen; omega) (by omega) (by simp; omega) ?_; intro v' w1 hown' hgrow _)
        have HOZ := Lib.hid (ownO_snoc (x := (⟨k_, co, nn, p, s_, m, nm⟩ : O)) hown')
        have HBZ := Lib.hid (below_grown (HB9.out.alloc hs2 _) hgrow (own_block HO9.out) (by simp; omega))
        clear hown' hgrow hown0 x0 x1 x2 x3 x4 x5 x6
        go_wp2
        go_roundw
        case rel => exact ⟨k + 1, q + 4, acc ++ [⟨k_, co, nn, p, s_, m, nm⟩], by go_num, by have := HQ.out; omega, by have := HQ.out; omega, by rw [List.length_append, HAL.out]; rfl, HN2, HOZ, HBZ.out⟩
        case measure => simp [intOf]; omega
      · obtain rfl : kk = 10 := HKK2.out.symm.trans hq9
        have hR : V.grownBy V (some xb) ∧ Blk V xb 24 (ofO b0 b1 b2 b3).cells.toArray := by
          refine ⟨grown_none V xb, ?_⟩
          have h := hX
          have e : ofO b0 b1 b2 b3 = ⟨10, 0, 0, 0, 0, 0, ⟨#[]⟩⟩ := by
            have g1 := HM1.out
            have g2 := HM2.out
            have g3 := HM3.out
            have g4 := HNB.out
            subst g1 g2 g3 g4
            rw [ofO_cases, hq9] <;> rfl
          rw [e]
          simpa [O.cells] using h
        obtain ⟨hg, hX9⟩ := hR
        have HO9 := Lib.hid (show OwnO V w.heap.size (.slice Ao acc.length co_) acc from HOV.out.kept hg (.inr fun e => absurd (HNE.out xb e) (by omega)))
        have HB9 := Lib.hid (below_grown HBV.out hg (fun r e => by injection e with e; omega) (by have := HSZ.out; omega))
        have HX9 := Lib.hid hX9
        clear hq9 HKK2 hX hg hX9
        go_upto_region 31 with (fail)
        clear x0 x1 x2 x3 x4 x5 x6 c1 c2 c3 hfx hxl hbl0
        have hX9 := HX9.out
        clear HX9 HOV HBV HSZ
        generalize V = wc at *
        have HY := Lib.hid HOP.out
        clear HOP
        generalize ofO b0 b1 b2 b3 = y at *
        obtain ⟨k_, co, nn, p, s_, m, nm⟩ := y
        obtain ⟨x0, x1, x2, x3, x4, x5, x6⟩ := ocells hX9
        have hxl := hX9.lt
        have hs2 := HB9.out.size
        have hown0 : wc.ownsRow w.heap.size 24 7 _ acc.length (acc.flatMap O.cells) := HO9.out
        have HN2 := Lib.hid (show acc ++ [(⟨k_, co, nn, p, s_, m, nm⟩ : O)] = (List.range (k + 1)).map (opK bs) from by rw [List.range_succ, List.map_append, ← HACC.out]; show _ = acc ++ [opK bs k]; rw [HY.out])
        clear hX9
        go_wp2_with (at_builtin; refine wpList_append_own _ rfl _ _ 37 rfl w.heap.size 24 i0 _ 7 64 Tryd.underlying37 hi hz0 hz1 hz2 rfl (by decide) _ _ _ rfl (hown0.alloc _) ⟨wc.heap.size, 0, none⟩ 1 1 (O.cells ⟨k_, co, nn, p, s_, m, nm⟩) rfl rfl (cells_new _ _ _) (by simp [O.cells, Value.oneCell']) (by unfold maxLen; omega) (by omega) (by simp; omega) ?_; intro v' w1 hown' hgrow _)
        have HOZ := Lib.hid (ownO_snoc (x := (⟨k_, co, nn, p, s_, m, nm⟩ : O)) hown')
        have HBZ := Lib.hid (below_grown (HB9.out.alloc hs2 _) hgrow (own_block HO9.out) (by simp; omega))
        clear hown' hgrow hown0 x0 x1 x2 x3 x4 x5 x6
        go_wp2
        go_roundw
        case rel => exact ⟨k + 1, q + 4, acc ++ [⟨k_, co, nn, p, s_, m, nm⟩], by go_num, by have := HQ.out; omega, by have := HQ.out; omega, by rw [List.length_append, HAL.out]; rfl, HN2, HOZ, HBZ.out⟩
        case measure => simp [intOf]; omega
      · obtain rfl : kk = 11 := HKK2.out.symm.trans hq9
        have hR : V.grownBy V (some xb) ∧ Blk V xb 24 (ofO b0 b1 b2 b3).cells.toArray := by
          refine ⟨grown_none V xb, ?_⟩
          have h := hX
          have e : ofO b0 b1 b2 b3 = ⟨11, 0, 0, 0, 0, 0, ⟨#[]⟩⟩ := by
            have g1 := HM1.out
            have g2 := HM2.out
            have g3 := HM3.out
            have g4 := HNB.out
            subst g1 g2 g3 g4
            rw [ofO_cases, hq9] <;> rfl
          rw [e]
          simpa [O.cells] using h
        obtain ⟨hg, hX9⟩ := hR
        have HO9 := Lib.hid (show OwnO V w.heap.size (.slice Ao acc.length co_) acc from HOV.out.kept hg (.inr fun e => absurd (HNE.out xb e) (by omega)))
        have HB9 := Lib.hid (below_grown HBV.out hg (fun r e => by injection e with e; omega) (by have := HSZ.out; omega))
        have HX9 := Lib.hid hX9
        clear hq9 HKK2 hX hg hX9
        go_upto_region 31 with (fail)
        clear x0 x1 x2 x3 x4 x5 x6 c1 c2 c3 hfx hxl hbl0
        have hX9 := HX9.out
        clear HX9 HOV HBV HSZ
        generalize V = wc at *
        have HY := Lib.hid HOP.out
        clear HOP
        generalize ofO b0 b1 b2 b3 = y at *
        obtain ⟨k_, co, nn, p, s_, m, nm⟩ := y
        obtain ⟨x0, x1, x2, x3, x4, x5, x6⟩ := ocells hX9
        have hxl := hX9.lt
        have hs2 := HB9.out.size
        have hown0 : wc.ownsRow w.heap.size 24 7 _ acc.length (acc.flatMap O.cells) := HO9.out
        have HN2 := Lib.hid (show acc ++ [(⟨k_, co, nn, p, s_, m, nm⟩ : O)] = (List.range (k + 1)).map (opK bs) from by rw [List.range_succ, List.map_append, ← HACC.out]; show _ = acc ++ [opK bs k]; rw [HY.out])
        clear hX9
        go_wp2_with (at_builtin; refine wpList_append_own _ rfl _ _ 37 rfl w.heap.size 24 i0 _ 7 64 Tryd.underlying37 hi hz0 hz1 hz2 rfl (by decide) _ _ _ rfl (hown0.alloc _) ⟨wc.heap.size, 0, none⟩ 1 1 (O.cells ⟨k_, co, nn, p, s_, m, nm⟩) rfl rfl (cells_new _ _ _) (by simp [O.cells, Value.oneCell']) (by unfold maxLen; omega) (by omega) (by simp; omega) ?_; intro v' w1 hown' hgrow _)
        have HOZ := Lib.hid (ownO_snoc (x := (⟨k_, co, nn, p, s_, m, nm⟩ : O)) hown')
        have HBZ := Lib.hid (below_grown (HB9.out.alloc hs2 _) hgrow (own_block HO9.out) (by simp; omega))
        clear hown' hgrow hown0 x0 x1 x2 x3 x4 x5 x6
        go_wp2
        go_roundw
        case rel => exact ⟨k + 1, q + 4, acc ++ [⟨k_, co, nn, p, s_, m, nm⟩], by go_num, by have := HQ.out; omega, by have := HQ.out; omega, by rw [List.length_append, HAL.out]; rfl, HN2, HOZ, HBZ.out⟩
        case measure => simp [intOf]; omega
      · obtain rfl : kk = 12 := HKK2.out.symm.trans hq9
        have hR : V.grownBy V (some xb) ∧ Blk V xb 24 (ofO b0 b1 b2 b3).cells.toArray := by
          refine ⟨grown_none V xb, ?_⟩
          have h := hX
          have e : ofO b0 b1 b2 b3 = ⟨12, 0, 0, 0, 0, 0, ⟨#[]⟩⟩ := by
            have g1 := HM1.out
            have g2 := HM2.out
            have g3 := HM3.out
            have g4 := HNB.out
            subst g1 g2 g3 g4
            rw [ofO_cases, hq9] <;> rfl
          rw [e]
          simpa [O.cells] using h
        obtain ⟨hg, hX9⟩ := hR
        have HO9 := Lib.hid (show OwnO V w.heap.size (.slice Ao acc.length co_) acc from HOV.out.kept hg (.inr fun e => absurd (HNE.out xb e) (by omega)))
        have HB9 := Lib.hid (below_grown HBV.out hg (fun r e => by injection e with e; omega) (by have := HSZ.out; omega))
        have HX9 := Lib.hid hX9
        clear hq9 HKK2 hX hg hX9
        go_upto_region 31 with (fail)
        clear x0 x1 x2 x3 x4 x5 x6 c1 c2 c3 hfx hxl hbl0
        have hX9 := HX9.out
        clear HX9 HOV HBV HSZ
        generalize V = wc at *
        have HY := Lib.hid HOP.out
        clear HOP
        generalize ofO b0 b1 b2 b3 = y at *
        obtain ⟨k_, co, nn, p, s_, m, nm⟩ := y
        obtain ⟨x0, x1, x2, x3, x4, x5, x6⟩ := ocells hX9
        have hxl := hX9.lt
        have hs2 := HB9.out.size
        have hown0 : wc.ownsRow w.heap.size 24 7 _ acc.length (acc.flatMap O.cells) := HO9.out
        have HN2 := Lib.hid (show acc ++ [(⟨k_, co, nn, p, s_, m, nm⟩ : O)] = (List.range (k + 1)).map (opK bs) from by rw [List.range_succ, List.map_append, ← HACC.out]; show _ = acc ++ [opK bs k]; rw [HY.out])
        clear hX9
        go_wp2_with (at_builtin; refine wpList_append_own _ rfl _ _ 37 rfl w.heap.size 24 i0 _ 7 64 Tryd.underlying37 hi hz0 hz1 hz2 rfl (by decide) _ _ _ rfl (hown0.alloc _) ⟨wc.heap.size, 0, none⟩ 1 1 (O.cells ⟨k_, co, nn, p, s_, m, nm⟩) rfl rfl (cells_new _ _ _) (by simp [O.cells, Value.oneCell']) (by unfold maxLen; omega) (by omega) (by simp; omega) ?_; intro v' w1 hown' hgrow _)
        have HOZ := Lib.hid (ownO_snoc (x := (⟨k_, co, nn, p, s_, m, nm⟩ : O)) hown')
        have HBZ := Lib.hid (below_grown (HB9.out.alloc hs2 _) hgrow (own_block HO9.out) (by simp; omega))
        clear hown' hgrow hown0 x0 x1 x2 x3 x4 x5 x6
        go_wp2
        go_roundw
        case rel => exact ⟨k + 1, q + 4, acc ++ [⟨k_, co, nn, p, s_, m, nm⟩], by go_num, by have := HQ.out; omega, by have := HQ.out; omega, by rw [List.length_append, HAL.out]; rfl, HN2, HOZ, HBZ.out⟩
        case measure => simp [intOf]; omega
    · have hka : ¬ (q : Int) + 3 < (bs.length : Int) := by omega
      have HF := Lib.hid (show acc = ofL bs from by rw [HACC.out]; unfold ofL; congr 2; omega)
      clear hq hacc
      go_wp2
      go_ret
      exact ⟨_, rfl, by rw [← HF.out]; exact HO.out, hB⟩
end Go.Proofs.YtgefnicpkfcghaaDoor
