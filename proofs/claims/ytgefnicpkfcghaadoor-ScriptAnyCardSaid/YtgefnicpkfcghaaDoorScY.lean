/-
  The law ScriptAny, walked. Condition: the tables lie as the program's text, and the library's, lay them.
-/
import Derived.Deep.RegionHeld3
import Derived.Outline
import Derived.Test.YtgefnicpkfcghaaDoorScU
import Derived.Test.YtgefnicpkfcghaaDoorScK
namespace Go.Proofs.YtgefnicpkfcghaaDoor
open Go.RowKit
set_option linter.unusedVariables false
set_option linter.unusedSimpArgs false

set_option maxRecDepth 100000 in
set_option maxHeartbeats 16000000 in
theorem anyLaw_any {w : World} (hG : Ground w) (A : Option Addr) (ca : Nat) (bs : List UInt8) (hx : BytesAt w A bs) (hxl : bs.length ≤ maxLen) (hcap : bs.length ≤ ca) (hcm : ca ≤ maxLen) :
    Calls Tryd.prog 8 #[.slice A bs.length ca] w fun e w' => e = .returned (.bool true) ∧ Below w.heap.size w w' := by
  unfold maxLen at hxl hcm
  have HAL := Lib.hid (alive_any hG)
  by_cases hbig : 2000 < bs.length
  · have h1 : (2000 : Int) < (bs.length : Int) := by omega
    clear hx hG hbig
    go_enter Tryd.func8, Tryd.ntmps8
    go_wp2_with fail
    refine HAL.out.mono ?_
    rintro e w1 ⟨rfl, hb1⟩
    have HB1 := Lib.hid hb1
    clear hb1
    go_wp2
    go_ret
    exact ⟨rfl, HB1.out⟩
  have h1 : ¬ (2000 : Int) < (bs.length : Int) := by omega
  have hb2 : bs.length ≤ 2000 := by omega
  have HX := Lib.hid hx
  have HG := Lib.hid hG
  have HOF := Lib.hid (fun W (hW : Below w.heap.size w W) => ofs_any A bs ca (by omega) hcap (by omega) (hx.below hW))
  clear hx hG hbig
  go_enter Tryd.func8, Tryd.ntmps8
  go_wp2_with fail
  refine HAL.out.mono ?_
  rintro e W1 ⟨rfl, hb1⟩
  have HB1 := Lib.hid hb1
  clear hb1 HAL
  go_wp2_with fail
  refine (HOF.out _ HB1.out).mono ?_
  rintro e W2 ⟨v, rfl, ho, hb2'⟩
  obtain ⟨E, ce, rfl, hE, _⟩ := ownO_at ho
  have HB2 := Lib.hid (bl_step HB1.out HB1.out.size hb2')
  have HE := Lib.hid hE
  clear ho hE hb2' HB1 HOF
  obtain ⟨xs, hxs⟩ : ∃ xs, xs = ofL bs := ⟨_, rfl⟩
  rw [← hxs] at HE ⊢
  have hxn : xs.length = bs.length / 4 := by rw [hxs]; exact ofL_len bs
  have HXS := Lib.hid hxs
  have HXN := Lib.hid hxn
  have hx500 : xs.length ≤ 500 := by omega
  clear hxs hxn
  go_wp2_with fail
  go_loopw [24] (fun i wr => ∃ k : Nat, i = .int .i64 (k : Int) ∧ k ≤ xs.length ∧ Below W2.heap.size W2 wr) (fun i _ => xs.length - (intOf i).toNat)
  case atStart => exact ⟨0, rfl, Nat.zero_le _, Below.refl _ _⟩
  case round =>
    obtain ⟨k, rfl, hk, hB⟩ := hrel
    by_cases hkl : k < xs.length
    · have hka : (k : Int) < (xs.length : Int) := by omega
      have hkb : k < bs.length / 4 := by have := HXN.out; omega
      have hxe : xs[k]? = some (opK bs k) := by rw [HXS.out]; exact ofL_get hkb
      obtain ⟨hm, hrg, hkk⟩ := opK_may bs k
      obtain ⟨b, off, rfl, hbl, _⟩ := op_at (HE.out.below hB) hxe
      have hbe : bs[4 * k]? = some bs[4 * k] := List.getElem?_eq_getElem (by omega)
      obtain ⟨b', off', rfl, hbl', _⟩ := byte_at (HX.out.below (bl_step HB2.out HB2.out.size hB)) hbe
      have hbn : byteN bs (4 * k) = (bs[4 * k]).toNat := by unfold byteN; rw [List.getD_eq_getElem?_getD, hbe]; rfl
      generalize bs[4 * k] = u at *
      obtain ⟨y, hop⟩ : ∃ y, opK bs k = y := ⟨_, rfl⟩
      rw [hop] at hm hrg hkk hxe
      obtain ⟨k_, co, nn, p, sg, mk, nm⟩ := y
      simp only at hkk
      have hum : (u.toNat : Int).tmod 12 + 1 = k_ := by
        rw [hkk, hbn]
        unfold kindOf4
        rw [show ((u.toNat % 12 : Nat) : Int) = (u.toNat : Int).tmod 12 from Int.ofNat_tmod u.toNat 12]
      have HS := Lib.hid (fun W (hW : Below wr.heap.size wr W) => show W.cell? ⟨b, off + k * 7, none⟩ = some (.int .i64 k_) ∧ W.cell? ⟨b, off + k * 7 + 1, none⟩ = some (.int .i64 co) ∧ W.cell? ⟨b, off + k * 7 + 2, none⟩ = some (.int .i64 nn) ∧ W.cell? ⟨b, off + k * 7 + 3, none⟩ = some (.int .i64 p) ∧ W.cell? ⟨b, off + k * 7 + 4, none⟩ = some (.int .i64 sg) ∧ W.cell? ⟨b, off + k * 7 + 5, none⟩ = some (.int .u32 mk) ∧ W.cell? ⟨b, off + k * 7 + 6, none⟩ = some (.string nm) ∧ W.cell? ⟨b', off' + 4 * k, none⟩ = some (.int .u8 (u.toNat : Int)) from by
        obtain ⟨_, d0, d1, d2, d3, d4, d5, d6⟩ := op_here (HE.out.below (bl_step hB hB.size hW)) hxe
        obtain ⟨b'', o'', hA'', _, hcc⟩ := byte_at (HX.out.below (bl_step HB2.out HB2.out.size (bl_step hB hB.size hW))) hbe
        injection hA'' with hA''
        injection hA'' with e1 e2 _
        subst e1 e2
        exact ⟨d0, d1, d2, d3, d4, d5, d6, hcc⟩)
      have HC := Lib.hid (fun W (hW : Below wr.heap.size wr W) => show Calls Tryd.prog 14 #[.agg #[.int .i64 k_, .int .i64 co, .int .i64 nn, .int .i64 p, .int .i64 sg, .int .u32 mk, .string nm]] W fun e w' => e = .returned (.int .i64 0) ∧ Below wr.heap.size wr w' from by
        have h := check_any (HG.out.below (bl_step HB2.out HB2.out.size (bl_step hB hB.size hW))).words ⟨k_, co, nn, p, sg, mk, nm⟩ hrg
        rw [mayE_yes hm] at h
        exact h.mono fun e w' h' => ⟨h'.1, bl_step hW hW.size h'.2⟩)
      have hu8 : u.toNat < 256 := UInt8.toNat_lt u
      have hu0 : (0 : Int) ≤ (u.toNat : Int) := by omega
      have h4k : (4 : Int) * (k : Int) < (bs.length : Int) := by omega
      have hw4 : wrap64 (4 * (k : Int)) = 4 * (k : Int) := IntWalk.wrap64_in _ (by omega)
      have hw5 : IntKind.i64.wrap (4 * (k : Int)) = 4 * (k : Int) := IntWalk.i64_in _ (by omega)
      have h4z : (0 : Int) ≤ 4 * (k : Int) := by omega
      have h4t : (4 * (k : Int)).toNat = 4 * k := by omega
      have h4l : 4 * k < bs.length := by omega
      have hwu : IntKind.i64.wrap (u.toNat : Int) = (u.toNat : Int) := IntWalk.i64_in _ (by omega)
      have hwk : IntKind.i64.wrap ((u.toNat : Int).tmod 12 + 1) = k_ := by
        have h3 : (u.toNat : Int).tmod 12 = ((u.toNat % 12 : Nat) : Int) := (Int.ofNat_tmod u.toNat 12).symm
        rw [IntWalk.i64_in _ (by rw [h3]; omega)]
        exact hum
      clear hum
      have HBR := Lib.hid hB
      clear hxe hbe hbn hop hm hrg hkk hbl hbl' hkb hB
      have hb0 := Below.refl wr.heap.size wr
      go_wp2_with fail
      go_region_held3 (fun W => W.cell? ⟨b, off + k * 7, none⟩ = some (.int .i64 k_) ∧ W.cell? ⟨b, off + k * 7 + 1, none⟩ = some (.int .i64 co) ∧ W.cell? ⟨b, off + k * 7 + 2, none⟩ = some (.int .i64 nn) ∧ W.cell? ⟨b, off + k * 7 + 3, none⟩ = some (.int .i64 p) ∧ W.cell? ⟨b, off + k * 7 + 4, none⟩ = some (.int .i64 sg) ∧ W.cell? ⟨b, off + k * 7 + 5, none⟩ = some (.int .u32 mk) ∧ W.cell? ⟨b, off + k * 7 + 6, none⟩ = some (.string nm) ∧ W.cell? ⟨b', off' + 4 * k, none⟩ = some (.int .u8 (u.toNat : Int)))
        (first | exact (have h : Below wr.heap.size wr _ := (by repeat (first | assumption | refine Below.drew ?_ | refine belowN ?_ _)); HS.out _ h))
        (first | (go_at_call 14; refine (HC.out _ ?_).mono ?_; (focus (repeat (first | assumption | refine Below.drew ?_ | refine belowN ?_ _))); rintro e W5 ⟨rfl, hW5⟩))
      have hK1 : Below wr.heap.size wr W5 := by assumption
      have HK1 := Lib.hid (bl_step HBR.out HBR.out.size hK1)
      clear hK1 hw4 hw5 h4t hwk hwu
      go_wp2
      go_roundw
      case rel => exact ⟨k + 1, by go_num, by omega, by first | exact HK1.out | exact HK1.out.drew | exact belowN HK1.out _⟩
      case measure => simp [intOf]; omega
    · have hkk : k = xs.length := by omega
      have hka : ¬ (k : Int) < (xs.length : Int) := by omega
      clear hkk hk
      have HB3 := Lib.hid (bl_step HB2.out HB2.out.size hB)
      have hE3 := HE.out.below hB
      have HE3 := Lib.hid hE3
      clear hE3
      have hfine : Fine xs := by rw [HXS.out]; exact ofL_fine (by omega)
      have hvals : Vals xs := by rw [HXS.out]; exact ofL_vals bs
      have hq : (bs.length : Int).tdiv 4 = (xs.length : Int) := by
        have h1 := Int.ofNat_tdiv bs.length 4
        have h2 := HXN.out
        rw [h2]
        exact h1.symm
      obtain ⟨sx, hsx⟩ : ∃ sx : ByteArray, sx = ⟨(linesL xs).toArray⟩ := ⟨_, rfl⟩
      have hsl : toL sx = linesL xs := by rw [hsx]; rfl
      have hsz : sx.size ≤ 1000000 := by
        have e1 : sx.size = (toL sx).length := by unfold toL; rw [Array.length_toList]; rfl
        have e2 := lines_len xs hfine.2 hvals
        rw [hsl] at e1
        omega
      have HT := Lib.hid (show Calls Tryd.prog 18 #[.slice E xs.length ce] wr fun e w' => e = .returned (.tuple #[.string sx, .int .i64 0]) ∧ Below wr.heap.size wr w' from by
        have h := text_any (HG.out.below HB3.out) E ce xs (by omega) HE3.out hvals
        rw [text_yes hfine] at h
        rw [hsx]
        exact h)
      have HP := Lib.hid (fun W (hW : Below w.heap.size w W) => show Calls Tryd.prog 19 #[.string sx] W (fun e w' => ∃ F cf, e = .returned (.tuple #[.slice F xs.length cf, .int .i64 0, .int .i64 0]) ∧ OpsAt w' F xs ∧ Below W.heap.size W w') from
        (parse_any (HG.out.below hW) sx hsz).mono fun e w' h => by
          rw [hsl] at h
          have hbt := back_text hfine.2 hvals
          have hll := lns_lines xs hfine.2
          rcases h with ⟨v, acc, rfl, ho, hm, hl, hb⟩ | ⟨j, rfl, hj, _, ⟨x, hx, hbad⟩, hb⟩
          · obtain ⟨F, cf, rfl, hF, _⟩ := ownO_at ho
            have := some_inj (hm.symm.trans hbt)
            subst this
            exact ⟨F, cf, rfl, hF, hb⟩
          · exfalso
            have hjl := (List.getElem?_eq_some_iff.1 hx).1
            rw [hll, List.length_map] at hjl
            rcases hbad with h | h
            · have h3 : ((lns (linesL xs)).map lineS)[j]? = some none := by rw [List.getElem?_map, hx, ← h]; rfl
              rw [hbt, List.getElem?_map, List.getElem?_eq_getElem hjl] at h3
              cases h3
            · omega)
      clear hfine hvals hsx hsl hsz hB
      go_wp2_with fail
      refine HT.out.mono ?_
      rintro e W4 ⟨rfl, hb4⟩
      have HB4 := Lib.hid (bl_step HB3.out HB3.out.size hb4)
      have HE4 := Lib.hid (HE3.out.below hb4)
      clear hb4 HB3 HT HE3
      go_wp2_with fail
      refine (HP.out _ HB4.out).mono ?_
      rintro e W5 ⟨F, cf, rfl, hF, hb5⟩
      have HB5 := Lib.hid (bl_step HB4.out HB4.out.size hb5)
      have HS := Lib.hid (show Calls Tryd.prog 20 #[.slice E xs.length ce, .slice F xs.length cf] W5 fun e w' => e = .returned (.bool true) ∧ Below W5.heap.size W5 w' from by
        have h := same_any E F ce cf xs xs (HE4.out.below hb5) hF (by omega) (by omega)
        rw [decide_eq_true rfl] at h
        exact h)
      clear hF hb5 HP
      go_wp2_with fail
      refine HS.out.mono ?_
      rintro e W6 ⟨rfl, hb6⟩
      have HB6 := Lib.hid (bl_step HB5.out HB5.out.size hb6)
      clear hb6
      go_wp2
      go_ret
      exact ⟨by first | rfl | simp, HB6.out⟩
end Go.Proofs.YtgefnicpkfcghaaDoor
