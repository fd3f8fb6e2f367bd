/-
  The law TraceApart, walked. Condition: the tables lie as the program's text, and the library's, lay them.
-/
import Derived.Test.YtpcaeggecojaeaaDoorTrD10
namespace Go.Proofs.YtpcaeggecojaeaaDoor
open Go.RowKit
set_option linter.unusedVariables false
set_option linter.unusedSimpArgs false

def othersL (ps all : List Int) : List Int := all.filter fun y => !decide (y ∈ ps)
def isOf (ps : List Int) (x : S) : Bool := decide (x.p ∈ ps)
def isNot (ps : List Int) (x : S) : Bool := !decide (x.p ∈ ps)
theorem sel_is (ps : List Int) (xs : List S) : selOf ps xs = xs.filter (isOf ps) := rfl
theorem sel_not (ps : List Int) (xs : List S) : selOf (othersL ps (pidsOf xs)) xs = xs.filter (isNot ps) := by
  unfold selOf
  apply List.filter_congr
  intro x hx
  have h1 : x.p ∈ pidsOf xs := (mem_pids _ _).2 (List.mem_map.2 ⟨x, hx, rfl⟩)
  unfold isNot
  by_cases h : x.p ∈ ps
  · have h2 : ¬ x.p ∈ othersL ps (pidsOf xs) := fun hc => by
      have := (List.mem_filter.1 hc).2
      simp [h] at this
    rw [decide_eq_true h, decide_eq_false h2]
    rfl
  · have h2 : x.p ∈ othersL ps (pidsOf xs) := List.mem_filter.2 ⟨h1, by simp [h]⟩
    rw [decide_eq_false h, decide_eq_true h2]
    rfl
theorem filt_at {p : S → Bool} {l : List S} {n : Nat} {x : S} (h : l[n]? = some x) (hp : p x = true) : (l.filter p)[((l.take n).filter p).length]? = some x := by
  obtain ⟨r, hr⟩ := take_prefix p l (n + 1)
  rw [take_hit h hp] at hr
  rw [← hr, List.append_assoc, List.getElem?_append_right (Nat.le_refl _), Nat.sub_self]
  rfl
theorem filt_kind {p : S → Bool} {l : List S} {i : Nat} {y : S} (h : (l.filter p)[i]? = some y) : p y = true := (List.mem_filter.1 (List.mem_of_getElem? h)).2
theorem othersL_take (ps all : List Int) (k : Nat) : (othersL ps (all.take k)).length ≤ k := Nat.le_trans (List.length_filter_le _ _) (by rw [List.length_take]; omega)
theorem othersL_hit {ps all : List Int} {k : Nat} {y : Int} (h : all[k]? = some y) (hy : ¬ y ∈ ps) : othersL ps (all.take (k + 1)) = othersL ps (all.take k) ++ [y] := by
  unfold othersL
  rw [List.take_add_one, h, List.filter_append]
  simp [hy]
theorem othersL_miss {ps all : List Int} {k : Nat} {y : Int} (h : all[k]? = some y) (hy : y ∈ ps) : othersL ps (all.take (k + 1)) = othersL ps (all.take k) := by
  unfold othersL
  rw [List.take_add_one, h, List.filter_append]
  simp [hy]

set_option maxRecDepth 100000 in
set_option maxHeartbeats 16000000 in
theorem apartLaw_any {w : World} (hG : Ground w) (A B : Option Addr) (ca cb : Nat) (xs : List S) (ps : List Int) (hx : SeenAt w A xs) (hp : IntsAt w B ps) (hxl : xs.length ≤ maxLen) (hpl : ps.length ≤ maxLen) :
    Calls Tryd.prog 4 #[.slice A xs.length ca, .slice B ps.length cb] w fun e w' => e = .returned (.bool true) ∧ Below w.heap.size w w' := by
  unfold maxLen at hxl hpl
  have HAL := Lib.hid (alive_any hG)
  clear hG
  by_cases h1 : 200 < xs.length
  · have h1' : (200 : Int) < (xs.length : Int) := by omega
    clear hx hp
    go_enter Tryd.func4, Tryd.ntmps4
    go_wp2_with fail
    refine HAL.out.mono ?_
    rintro e w1 ⟨rfl, hb1⟩
    have HB1 := Lib.hid hb1
    clear hb1
    go_wp2
    go_ret
    exact ⟨rfl, HB1.out⟩
  by_cases h2 : 20 < ps.length
  · have h1' : ¬ (200 : Int) < (xs.length : Int) := by omega
    have h2' : (20 : Int) < (ps.length : Int) := by omega
    clear hx hp
    go_enter Tryd.func4, Tryd.ntmps4
    go_wp2_with fail
    refine HAL.out.mono ?_
    rintro e w1 ⟨rfl, hb1⟩
    have HB1 := Lib.hid hb1
    clear hb1
    go_wp2
    go_ret
    exact ⟨rfl, HB1.out⟩
  have h1' : ¬ (200 : Int) < (xs.length : Int) := by omega
  have h2' : ¬ (20 : Int) < (ps.length : Int) := by omega
  obtain ⟨i0, hi, hz0, hz1, hz2⟩ := info_parts infoInt
  have HX := Lib.hid hx
  have HP := Lib.hid hp
  clear hx hp
  go_enter Tryd.func4, Tryd.ntmps4
  go_wp2_with fail
  refine HAL.out.mono ?_
  rintro e w1 ⟨rfl, hb1⟩
  go_wp2_with fail
  refine (pids_any A ca xs (HX.out.below hb1) (by omega)).mono ?_
  rintro e W1 ⟨v, rfl, hv, hb2⟩
  have hpo := pids_len xs
  obtain ⟨C, cc, rfl, hC, _⟩ := ownI_at hv
  have HC := Lib.hid hC
  have HB1 := Lib.hid (hb1.trans (hb2.mono hb1.size))
  have HX1 := Lib.hid (HX.out.below HB1.out)
  have HP1 := Lib.hid (HP.out.below HB1.out)
  have HSN := Lib.hid (sel_not ps xs)
  clear hv hb1 hb2 hC HAL HX HP
  generalize pidsOf xs = all at *
  have hal : ¬ (200 : Int) < (all.length : Int) := by omega
  go_wp2_with fail
  go_loopw [6, 34] (fun v i wr => ∃ k : Nat, i = .int .i64 (k : Int) ∧ k ≤ all.length ∧ OwnI wr W1.heap.size v (othersL ps (all.take k)) ∧ Below W1.heap.size W1 wr) (fun _ i _ => all.length - (intOf i).toNat)
  case atStart => exact ⟨0, rfl, Nat.zero_le _, World.ownsRow_nil _ _ _ _, Below.refl _ _⟩
  case round =>
    obtain ⟨k, rfl, hk, hown, hB⟩ := hrel
    rename World => wo
    by_cases hkl : k < all.length
    · have hka : (k : Int) < (all.length : Int) := by omega
      have hye : all[k]? = some all[k] := List.getElem?_eq_getElem hkl
      have hlen := othersL_take ps all k
      have HH := Lib.hid (fun h => othersL_hit (ps := ps) hye h)
      have HM := Lib.hid (fun h => othersL_miss (ps := ps) hye h)
      have HYE := Lib.hid hye
      generalize all[k] = y at *
      generalize othersL ps (all.take k) = ol at *
      have HO := Lib.hid hown
      clear hown hye
      go_wp2_with fail
      go_loopw [9, 39] (fun is j wr => ∃ q : Nat, j = .int .i64 (q : Int) ∧ q ≤ ps.length ∧ is = .bool (decide (y ∈ ps.take q)) ∧ Below wo.heap.size wo wr) (fun _ j _ => ps.length - (intOf j).toNat)
      case atStart => exact ⟨0, rfl, Nat.zero_le _, by simp, Below.refl _ _⟩
      case round =>
        obtain ⟨q, rfl, hq, rfl, hB2⟩ := hrel
        have hBq : Below W1.heap.size W1 wr := hB.trans (hB2.mono hB.size)
        obtain ⟨b, off, rfl, hbl, c0⟩ := int_at (HC.out.below hBq) HYE.out
        by_cases hql : q < ps.length
        · have hqa : (q : Int) < (ps.length : Int) := by omega
          have hpe : ps[q]? = some ps[q] := List.getElem?_eq_getElem hql
          obtain ⟨b', off', rfl, hbl', d0⟩ := int_at (HP1.out.below hBq) hpe
          have htk := mem_take_next (v := y) hpe
          generalize ps[q] = z at *
          have HTK := Lib.hid htk
          generalize hbq : decide (y ∈ ps.take q) = bq at *
          clear htk hpe hbq
          cases bq with
          | true =>
            go_wp2_with (go_quiet (fail))
            go_roundw
            case rel => exact ⟨q + 1, by go_num, by omega, by rw [HTK.out, Bool.true_or], belowN hB2 _⟩
            case measure => simp [intOf]; omega
          | false =>
            by_cases hyx : z = y
            · have hb1 : (z == y) = true := by simp [hyx]
              have HYX := Lib.hid hyx
              clear hyx
              go_wp2_with (go_quiet (fail))
              go_roundw
              case rel => exact ⟨q + 1, by go_num, by omega, by rw [HTK.out, decide_eq_true HYX.out, Bool.or_true], belowN hB2 _⟩
              case measure => simp [intOf]; omega
            · have hb1 : (z == y) = false := by simp [hyx]
              have HYX := Lib.hid hyx
              clear hyx
              go_wp2_with (go_quiet (fail))
              go_roundw
              case rel => exact ⟨q + 1, by go_num, by omega, by rw [HTK.out, decide_eq_false HYX.out, Bool.or_false], belowN hB2 _⟩
              case measure => simp [intOf]; omega
        · have hqq : q = ps.length := by omega
          subst hqq
          rw [List.take_length]
          have hown2 : OwnI wr W1.heap.size _ ol := ownsRow_below HO.out hB2
          have hsz := hBq.size
          by_cases hm : y ∈ ps
          · have hd : decide (y ∈ ps) = true := decide_eq_true hm
            have HF := Lib.hid (HM.out hm)
            rw [hd]
            clear hd hm
            go_wp2
            go_roundw
            case rel => exact ⟨k + 1, by go_num, by omega, by rw [HF.out]; exact hown2, hBq⟩
            case measure => simp [intOf]; omega
          · have hd : decide (y ∈ ps) = false := decide_eq_false hm
            have HF := Lib.hid (HH.out hm)
            rw [hd]
            clear hd hm
            go_wp2_with (at_builtin; refine wpList_append_own _ rfl _ _ 29 rfl W1.heap.size 3 i0 _ 1 8 Tryd.underlying29 hi hz0 hz1 hz2 rfl (by decide) _ _ _ rfl (hown2.alloc _) ⟨wr.heap.size, 0, none⟩ 1 1 (iCells y) rfl rfl (cells_new _ _ _) (by simp [iCells, Value.oneCell']) (by unfold maxLen; omega) (by omega) (by simp; omega) ?_; intro v' w1 hown' hgrow _)
            go_roundw
            case rel => exact ⟨k + 1, by go_num, by omega, by rw [HF.out]; exact ownI_snoc hown', below_grown (hBq.alloc hsz _) hgrow (own_block hown2) (by simp; omega)⟩
            case measure => simp [intOf]; omega
    · have hkk : k = all.length := by omega
      subst hkk
      rw [List.take_length] at hown
      obtain ⟨D, cd, rfl, hD, _⟩ := ownI_at hown
      have hol : (othersL ps all).length ≤ 1000000 := Nat.le_trans (List.length_filter_le _ _) (by omega)
      have HD := Lib.hid hD
      have HXo := Lib.hid (HX1.out.below hB)
      have HPo := Lib.hid (HP1.out.below hB)
      have HBo := Lib.hid (HB1.out.trans (hB.mono HB1.out.size))
      have HOL := Lib.hid hol
      have HLX := Lib.hid (show xs.length ≤ 1000000 by omega)
      have HLP := Lib.hid (show ps.length ≤ 1000000 by omega)
      clear hown hD hB hol HC HX1 HP1 HB1
      go_wp2_with fail
      refine (of_any A B ca cb xs ps HXo.out HPo.out HLX.out HLP.out).mono ?_
      rintro e w3 ⟨va, rfl, hva, hb3⟩
      go_wp2_with fail
      refine (of_any A D ca cd xs (othersL ps all) (HXo.out.below hb3) (HD.out.below hb3) HLX.out HOL.out).mono ?_
      rintro e w4 ⟨vb, rfl, hvb, hb4⟩
      rw [HSN.out] at hvb
      rw [sel_is] at hva
      obtain ⟨A1, c1, rfl, hA1, _⟩ := ownS_at hva
      obtain ⟨B1, d1, rfl, hB1, _⟩ := ownS_at hvb
      have HA1 := Lib.hid (hA1.below hb4)
      have HB1 := Lib.hid hB1
      have HB4 := Lib.hid (HBo.out.trans ((hb3.trans (hb4.mono hb3.size)).mono HBo.out.size))
      have HX4 := Lib.hid ((HXo.out.below hb3).below hb4)
      have HAL1 := Lib.hid (show (xs.filter (isOf ps)).length ≤ xs.length from List.length_filter_le _ _)
      have HBL1 := Lib.hid (show (xs.filter (isNot ps)).length ≤ xs.length from List.length_filter_le _ _)
      have HAT := Lib.hid (fun (n : Nat) (x : S) (h : xs[n]? = some x) (hp : isOf ps x = true) => filt_at h hp)
      have HBT := Lib.hid (fun (n : Nat) (x : S) (h : xs[n]? = some x) (hp : isNot ps x = true) => filt_at h hp)
      have HAS := Lib.hid (fun (n : Nat) (x : S) (h : xs[n]? = some x) => And.intro (fun hp : isOf ps x = true => take_hit (p := isOf ps) h hp) (fun hp : isOf ps x = false => take_miss (p := isOf ps) h hp))
      have HBS := Lib.hid (fun (n : Nat) (x : S) (h : xs[n]? = some x) => And.intro (fun hp : isNot ps x = true => take_hit (p := isNot ps) h hp) (fun hp : isNot ps x = false => take_miss (p := isNot ps) h hp))
      have HAK := Lib.hid (fun (i : Nat) (y : S) (h : (xs.filter (isOf ps))[i]? = some y) => filt_kind h)
      have HBK := Lib.hid (fun (i : Nat) (y : S) (h : (xs.filter (isNot ps))[i]? = some y) => filt_kind h)
      have HTA := Lib.hid (show ∀ n, ((xs.take n).filter (isOf ps)).length ≤ n from fun n => Nat.le_trans (List.length_filter_le _ _) (by rw [List.length_take]; omega))
      have HTB := Lib.hid (show ∀ n, ((xs.take n).filter (isNot ps)).length ≤ n from fun n => Nat.le_trans (List.length_filter_le _ _) (by rw [List.length_take]; omega))
      have HTZ := Lib.hid (show (xs.take xs.length).filter (isOf ps) = xs.filter (isOf ps) ∧ (xs.take xs.length).filter (isNot ps) = xs.filter (isNot ps) by rw [List.take_length]; exact ⟨rfl, rfl⟩)
      clear hva hvb hb3 hb4 hA1 hB1 HSN HBo HXo HPo HD HOL HLX HLP hi hz0 hz1 hz2 i0
      have hlaL : (xs.filter (isOf ps)).length ≤ 200 := by have := HAL1.out; omega
      have hlbL : (xs.filter (isNot ps)).length ≤ 200 := by have := HBL1.out; omega
      generalize hga : xs.filter (isOf ps) = al at *
      generalize hgb : xs.filter (isNot ps) = bl at *
      clear hga hgb
      go_wp2_with fail
      go_loopw [13, 14, 73] (fun ui uk un wr => ∃ n : Nat, un = .int .i64 (n : Int) ∧ n ≤ xs.length ∧ ui = .int .i64 (((xs.take n).filter (isOf ps)).length : Nat) ∧ uk = .int .i64 (((xs.take n).filter (isNot ps)).length : Nat) ∧ Below w4.heap.size w4 wr) (fun _ _ un _ => xs.length - (intOf un).toNat)
      case atStart => exact ⟨0, rfl, Nat.zero_le _, rfl, rfl, Below.refl _ _⟩
      case round =>
        obtain ⟨n, rfl, hn, rfl, rfl, hB⟩ := hrel
        have hta := HTA.out n
        have htb := HTB.out n
        by_cases hnl : n < xs.length
        · have hna : (n : Int) < (xs.length : Int) := by omega
          have hxe : xs[n]? = some xs[n] := List.getElem?_eq_getElem hnl
          obtain ⟨b, off, rfl, hbl, e0, e1, e2, e3⟩ := seen_at (HX4.out.below hB) hxe
          have hat := HAT.out n _ hxe
          have hbt := HBT.out n _ hxe
          have has := HAS.out n _ hxe
          have hbs := HBS.out n _ hxe
          generalize xs[n] = x at *
          generalize hgi : ((xs.take n).filter (isOf ps)).length = i at *
          generalize hgk : ((xs.take n).filter (isNot ps)).length = k at *
          by_cases hpx : isOf ps x = true
          · have hnx : isNot ps x = false := by unfold isNot; unfold isOf at hpx; rw [hpx]; rfl
            have h3 := hat hpx
            have hia : i < al.length := (List.getElem?_eq_some_iff.1 h3).1
            have hib : (i : Int) < (al.length : Int) := by omega
            obtain ⟨b', off', rfl, hbl', f0, f1, f2, f3⟩ := seen_at (HA1.out.below hB) h3
            have HNI := Lib.hid (show ((xs.take (n + 1)).filter (isOf ps)).length = i + 1 by rw [has.1 hpx, List.length_append, hgi]; rfl)
            have HNK := Lib.hid (show ((xs.take (n + 1)).filter (isNot ps)).length = k by rw [hbs.2 hnx, hgk])
            have HE := fun w => eqSeen x x w
            have hd : decide (x = x) = true := decide_eq_true rfl
            rw [hd] at HE
            have HBB := Lib.hid hB
            by_cases hkb : k < bl.length
            · have hkc : ¬ (bl.length : Int) ≤ (k : Int) := by omega
              have hkd : (k : Int) < (bl.length : Int) := by omega
              have hye : bl[k]? = some bl[k] := List.getElem?_eq_getElem hkb
              have hyk := HBK.out k _ hye
              obtain ⟨b2, off2, rfl, hbl2, g0, g1, g2, g3⟩ := seen_at (HB1.out.below hB) hye
              generalize bl[k] = y at *
              have hyx : ¬ y = x := fun h => by rw [h, hnx] at hyk; cases hyk
              have HE2 := fun w => eqSeen y x w
              have hd2 : decide (y = x) = false := decide_eq_false hyx
              rw [hd2] at HE2
              obtain ⟨xp, xk, xc, xv⟩ := x
              obtain ⟨yp, yk, yc, yv⟩ := y
              simp only [S.cells] at HE HE2 e0 e1 e2 e3 f0 f1 f2 f3 g0 g1 g2 g3
              clear hd hd2 hyx hyk hye h3 hat hbt has hbs hxe hgi hgk hpx hnx hB
              go_wp2_with (go_quiet (fail))
              go_roundw
              case rel => exact ⟨n + 1, by go_num, by omega, by rw [HNI.out]; go_num, by rw [HNK.out], belowN HBB.out _⟩
              case measure => simp [intOf]; omega
            · have hkc : (bl.length : Int) ≤ (k : Int) := by omega
              obtain ⟨xp, xk, xc, xv⟩ := x
              simp only [S.cells] at HE e0 e1 e2 e3 f0 f1 f2 f3
              clear hd h3 hat hbt has hbs hxe hgi hgk hpx hnx hB
              go_wp2_with (go_quiet (fail))
              go_roundw
              case rel => exact ⟨n + 1, by go_num, by omega, by rw [HNI.out]; go_num, by rw [HNK.out], belowN HBB.out _⟩
              case measure => simp [intOf]; omega
          · have hpx' : isOf ps x = false := by simpa using hpx
            have hnx : isNot ps x = true := by unfold isNot; unfold isOf at hpx'; rw [hpx']; rfl
            have h3 := hbt hnx
            have hka : k < bl.length := (List.getElem?_eq_some_iff.1 h3).1
            have hkd : (k : Int) < (bl.length : Int) := by omega
            obtain ⟨b', off', rfl, hbl', f0, f1, f2, f3⟩ := seen_at (HB1.out.below hB) h3
            have HNI := Lib.hid (show ((xs.take (n + 1)).filter (isOf ps)).length = i by rw [has.2 hpx', hgi])
            have HNK := Lib.hid (show ((xs.take (n + 1)).filter (isNot ps)).length = k + 1 by rw [hbs.1 hnx, List.length_append, hgk]; rfl)
            have HE := fun w => eqSeen x x w
            have hd : decide (x = x) = true := decide_eq_true rfl
            rw [hd] at HE
            have HBB := Lib.hid hB
            by_cases hia : i < al.length
            · have hib : (i : Int) < (al.length : Int) := by omega
              have hye : al[i]? = some al[i] := List.getElem?_eq_getElem hia
              have hyk := HAK.out i _ hye
              obtain ⟨b2, off2, rfl, hbl2, g0, g1, g2, g3⟩ := seen_at (HA1.out.below hB) hye
              generalize al[i] = y at *
              have hyx : ¬ y = x := fun h => by rw [h] at hyk; exact hpx hyk
              have HE2 := fun w => eqSeen y x w
              have hd2 : decide (y = x) = false := decide_eq_false hyx
              rw [hd2] at HE2
              obtain ⟨xp, xk, xc, xv⟩ := x
              obtain ⟨yp, yk, yc, yv⟩ := y
              simp only [S.cells] at HE HE2 e0 e1 e2 e3 f0 f1 f2 f3 g0 g1 g2 g3
              clear hd hd2 hyx hyk hye h3 hat hbt has hbs hxe hgi hgk hpx hpx' hnx hB
              go_wp2_with (go_quiet (fail))
              go_roundw
              case rel => exact ⟨n + 1, by go_num, by omega, by rw [HNI.out], by rw [HNK.out]; go_num, belowN HBB.out _⟩
              case measure => simp [intOf]; omega
            · have hib : ¬ (i : Int) < (al.length : Int) := by omega
              have hib' : decide ((i : Int) < (al.length : Int)) = false := decide_eq_false hib
              obtain ⟨xp, xk, xc, xv⟩ := x
              simp only [S.cells] at HE e0 e1 e2 e3 f0 f1 f2 f3
              clear hd h3 hat hbt has hbs hxe hgi hgk hpx hpx' hnx hB
              go_wp2_with (go_quiet (fail))
              go_roundw
              case rel => exact ⟨n + 1, by go_num, by omega, by rw [HNI.out], by rw [HNK.out]; go_num, belowN HBB.out _⟩
              case measure => simp [intOf]; omega
        · have hnn : n = xs.length := by omega
          subst hnn
          rw [HTZ.out.1, HTZ.out.2]
          have HBB := Lib.hid hB
          clear hB hta htb
          go_wp2
          go_ret
          exact ⟨by first | rfl | simp, HB4.out.trans (HBB.out.mono HB4.out.size)⟩
end Go.Proofs.YtpcaeggecojaeaaDoor
