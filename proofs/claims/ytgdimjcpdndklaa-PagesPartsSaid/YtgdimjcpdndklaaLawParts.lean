/-
  The law PagesParts answers true for every input: parts are those eights of which a page has one. No condition.
-/
import Derived.Test.YtgdimjcpdndklaaMut
import Derived.Test.YtgdimjcpdndklaaPlainParts
namespace Go.Proofs.Ytgdimjcpdndklaa.lawPagesParts
open Go.ChangeShapes Go.WideShapes Go.ChangeAt Go.RowKit
set_option linter.unusedVariables false

theorem mapsAt_here {w : World} {b off : Nat} {l : List (Nat × E)} (h : MapsAt w (some ⟨b, off, none⟩) l) {i : Nat} {x : Nat × E} (hx : l[i]? = some x) : b < w.heap.size ∧ w.cell? ⟨b, off + i * 6, none⟩ = some (.int .i64 x.1) ∧ w.cell? ⟨b, off + i * 6 + 1, none⟩ = some (.int .i64 x.2.f) ∧
    w.cell? ⟨b, off + i * 6 + 1 + 1, none⟩ = some (.bool x.2.w) ∧ w.cell? ⟨b, off + i * 6 + 1 + 2, none⟩ = some (.bool x.2.s) ∧ w.cell? ⟨b, off + i * 6 + 1 + 3, none⟩ = some (.bool x.2.c) ∧ w.cell? ⟨b, off + i * 6 + 1 + 4, none⟩ = some (.bool x.2.d) := by
  obtain ⟨b', off', hA, r⟩ := h i x hx
  injection hA with hA
  injection hA with e1 e2 _
  subst e1 e2
  exact r
theorem mcells {w : World} {g : Nat} {t : TypeId} {a b c d e f : Value} (h : Blk w g t #[a, b, c, d, e, f]) : w.cell? ⟨g, 0, none⟩ = some a ∧ w.cell? ⟨g, 1, none⟩ = some b ∧ w.cell? ⟨g, 1 + 1, none⟩ = some c ∧ w.cell? ⟨g, 1 + 2, none⟩ = some d ∧ w.cell? ⟨g, 1 + 3, none⟩ = some e ∧ w.cell? ⟨g, 1 + 4, none⟩ = some f ∧ g < w.heap.size :=
  ⟨h.cell 0, h.cell 1, h.cell 2, h.cell 3, h.cell 4, h.cell 5, h.lt⟩
theorem cntM_le (m : M) : ∀ k, cntM m k ≤ k
  | 0 => Nat.le_refl _
  | k + 1 => by have := cntM_le m k; unfold cntM; split <;> omega

set_option maxRecDepth 100000 in
set_option maxHeartbeats 4000000 in
theorem walk {w : World} (A : Option Addr) (ca : Nat) (l : List O) (hO : OpsAt w A l) (hl : l.length ≤ maxLen) :
    Calls Try.prog 6 #[.slice A l.length ca] w fun e w' => e = .returned (.bool true) ∧ Below w.heap.size w w' := by
  unfold maxLen at hl
  by_cases hl150 : 150 < l.length
  · clear hO
    go_enter Try.func6, Try.ntmps6
    go_wp2_with (go_at_call 10; refine alive_fn.mono ?_; rintro e w1 ⟨rfl, hb1⟩)
    go_ret
    exact ⟨rfl, hb1⟩
  · have hle : l.length ≤ 150 := by omega
    clear hl150
    have HO := Lib.hid hO
    clear hO
    go_enter Try.func6, Try.ntmps6
    go_wp2_with fail
    refine alive_fn.mono ?_
    rintro e w1 ⟨rfl, hb1⟩
    have HO1 := Lib.hid (HO.out.below hb1)
    have hs1 := hb1.size
    go_wp2_with fail
    refine (grown_any A ca l hle HO1.out).mono ?_
    rintro e w2 ⟨rfl, hT2, hb2⟩
    generalize runM (fun _ => none) l = m at *
    generalize hbt : w1.heap.size = bt at *
    have hs2 := hb2.size
    have hB2 : Below w.heap.size w w2 := hb1.trans (hb2.mono (by omega))
    clear hb1 hb2
    obtain ⟨q, hq, hown⟩ := hT2
    have HBW2 := Lib.hid (fun W m' (h : Mut w2 bt q m' W) => hB2.trans (h.butOf.below (B := w.heap.size) (fun j hj => by have := hown j hj; omega) (by omega)))
    have hM2 := Mut.start hq
    clear hq hB2
    go_wp2_with fail
    go_loopw [5, 6, 7] (fun sp sl sn wr => ∃ n : Nat, n ≤ 64 ∧ sn = .int .i64 n ∧ sp = .int .i64 (pl m n).1 ∧ sl = .int .i64 (pl m n).2 ∧ Mut w2 bt q m wr) (fun _ _ sn _ => 64 - (intOf sn).toNat)
    case atStart => exact ⟨0, by omega, rfl, rfl, rfl, hM2⟩
    case round =>
      obtain ⟨n, hn, rfl, rfl, rfl, hM⟩ := hrel
      clear hM2
      have hle2 := pl_le m n
      by_cases hn64 : n < 64
      · have hnb : (n : Int) < 64 := by omega
        have hg := get_mut hM (n : Int)
        rw [look_nat m hn64] at hg
        have hstep : pl m (n + 1) = if (m n).isSome = true ∧ ((n / 8 : Nat) : Int) ≠ (pl m n).2 then ((pl m n).1 + 1, ((n / 8 : Nat) : Int)) else pl m n := rfl
        have hdiv : (n : Int) / 8 = ((n / 8 : Nat) : Int) := by omega
        generalize hpl : pl m n = pn at *
        obtain ⟨pn, ln⟩ := pn
        simp only at hle2
        have HDIV := Lib.hid hdiv
        rw [← hdiv] at hstep
        clear hdiv
        cases hmn : m n with
        | none =>
          rw [hmn] at hstep hg
          simp only [Option.isSome_none, Bool.false_eq_true, false_and, if_false] at hstep
          simp only [gotV, Option.getD_none, Option.isSome_none, E.val, E.arr, E.zero] at hg
          have HG := Lib.hid hg
          have HST := Lib.hid hstep
          clear hg hstep hmn hpl
          go_wp2_with (go_at_call 13; refine HG.out.mono ?_; rintro e w4 ⟨rfl, hM4⟩)
          go_roundw
          case rel => exact ⟨n + 1, by omega, by go_num, by rw [HST.out], by rw [HST.out], by (repeat (first | assumption | refine Mut.drew ?_ | refine Mut.drewN ?_ _ | refine Mut.alloc ?_ _ | refine MB.drew ?_ | refine MB.drewN ?_ _ | refine MB.new ?_ _ _ | refine MB.alloc ?_ _ | refine Blk.drew ?_ | refine Blk.drewN ?_ _ | refine Blk.alloc ?_ _ | refine Below.drew ?_ | refine belowN ?_ _ | refine below_alloc ?_ _ (by first | omega | (simp; omega))))⟩
          case measure => simp [intOf]; omega
        | some x =>
          rw [hmn] at hstep hg
          obtain ⟨f, e1, e2, e3, e4⟩ := x
          simp only [gotV, Option.getD_some, Option.isSome_some, E.val, E.arr] at hg
          simp only [Option.isSome_some, true_and] at hstep
          have HG := Lib.hid hg
          by_cases hln : (n : Int) / 8 = ln
          · have hb : ((n : Int) / 8 != ln) = false := by simp [hln]
            rw [if_neg (by simpa using hln)] at hstep
            have HST := Lib.hid hstep
            clear hg hstep hmn hpl hln
            go_wp2_with (go_at_call 13; refine HG.out.mono ?_; rintro e w4 ⟨rfl, hM4⟩)
            go_roundw
            case rel => exact ⟨n + 1, by omega, by go_num, by rw [HST.out], by rw [HST.out], by (repeat (first | assumption | refine Mut.drew ?_ | refine Mut.drewN ?_ _ | refine Mut.alloc ?_ _ | refine MB.drew ?_ | refine MB.drewN ?_ _ | refine MB.new ?_ _ _ | refine MB.alloc ?_ _ | refine Blk.drew ?_ | refine Blk.drewN ?_ _ | refine Blk.alloc ?_ _ | refine Below.drew ?_ | refine belowN ?_ _ | refine below_alloc ?_ _ (by first | omega | (simp; omega))))⟩
            case measure => simp [intOf]; omega
          · have hb : ((n : Int) / 8 != ln) = true := by simp [hln]
            rw [if_pos (by simpa using hln)] at hstep
            have HST := Lib.hid hstep
            clear hg hstep hmn hpl hln
            go_wp2_with (go_at_call 13; refine HG.out.mono ?_; rintro e w4 ⟨rfl, hM4⟩)
            go_roundw
            case rel => exact ⟨n + 1, by omega, by go_num, by rw [HST.out]; go_num, by rw [HST.out], by (repeat (first | assumption | refine Mut.drew ?_ | refine Mut.drewN ?_ _ | refine Mut.alloc ?_ _ | refine MB.drew ?_ | refine MB.drewN ?_ _ | refine MB.new ?_ _ _ | refine MB.alloc ?_ _ | refine Blk.drew ?_ | refine Blk.drewN ?_ _ | refine Blk.alloc ?_ _ | refine Below.drew ?_ | refine belowN ?_ _ | refine below_alloc ?_ _ (by first | omega | (simp; omega))))⟩
            case measure => simp [intOf]; omega
      · have : n = 64 := by omega
        subst this
        rw [pl_all m] at *
        clear hle2 hn64 hn
        have hlen := list_len m
        go_wp2_with fail
        refine (len_mut hM).mono ?_
        rintro e w3 ⟨rfl, hM3⟩
        have hcnt := (cntM_le m 8)
        go_wp2_with fail
        refine (parts_mut hM3).mono ?_
        rintro e w4 ⟨rfl, rfl⟩
        obtain ⟨q3, hq3, hbut3, hown3⟩ := hM3
        have hlt3 : ∀ j, Own bt q3 j → j < w3.heap.size := fun j hj => hq3.own_lt hj
        go_wp2_with fail
        refine (list_mut (Mut.start hq3)).mono ?_
        rintro e w5 ⟨A1, c1, rfl, hA1, hnew1, hM5', hb5⟩
        have hq5 := hq3.below hb5 (Nat.le_refl _)
        have HBW := Lib.hid (fun W m' (h : Mut w5 bt q3 m' W) => HBW2.out W m' (Mut.go (hbut3.thenBelow hb5 hbut3.size) hown3 h))
        have HAW := Lib.hid (fun W m' (h : Mut w5 bt q3 m' W) => mapsAt_but hA1 h.butOf (fun _ b off hA hj => by have := hnew1 b off hA; have := hlt3 _ hj; omega))
        have hM5 := Mut.start hq5
        clear hA1 hnew1 hM5' hb5 hq5 hq3 hlt3 hown3 hbut3 hM
        go_wp2_with fail
        go_loopw [10, 58] (fun sm sj wr => ∃ (j : Nat) (mm : M), j ≤ (list m).length ∧ sj = .int .i64 j ∧ sm = .int .i64 (list mm).length ∧ list mm = (list m).drop j ∧ Mut w5 bt q3 mm wr) (fun _ sj _ => (list m).length - (intOf sj).toNat)
        case atStart => exact ⟨0, m, by omega, rfl, rfl, by simp, hM5⟩
        case round =>
          obtain ⟨j, mm, hj, rfl, rfl, hmm, hM⟩ := hrel
          clear hM5
          by_cases hjl : j < (list m).length
          · have hjb : (j : Int) < ((list m).length : Int) := by omega
            have hat : (list m)[j]? = some (list m)[j] := List.getElem?_eq_getElem hjl
            rw [List.drop_eq_getElem_cons hjl] at hmm
            generalize hx : (list m)[j] = x at *
            obtain ⟨hx64, hmx, hml⟩ := list_head hmm
            obtain ⟨b, off, rfl, _⟩ := HAW.out _ _ hM j _ hat
            obtain ⟨hbl, c0, c1, c2, c3, c4, c5⟩ := mapsAt_here (HAW.out _ _ hM) hat
            obtain ⟨p, f, e1, e2, e3, e4⟩ := x
            simp only at hx64 hmx c0 c1 c2 c3 c4 c5 hml
            have hlm : (list mm).length = ((list m).drop (j + 1)).length + 1 := by rw [hmm]; rfl
            obtain ⟨K, hll⟩ : ∃ K, ((list m).drop (j + 1)).length = K := ⟨_, rfl⟩
            have hK : K + (j + 1) = (list m).length := by rw [← hll, List.length_drop]; omega
            rw [show ((list mm).length : Int) = (K : Int) + 1 from by rw [hlm, hll]; rfl]
            have hnew := (MB.ofMut hM).new 42 #[.int .i64 p, .int .i64 f, .bool e1, .bool e2, .bool e3, .bool e4]
            have hclr := fun W (h : MB w5 bt q3 mm [(wr.heap.size, 42, #[.int .i64 p, .int .i64 f, .bool e1, .bool e2, .bool e3, .bool e4])] W) => clear_mb h (p : Int)
            rw [look_nat _ hx64, hmx, clearM_good hx64] at hclr
            simp only [gotV, Option.getD_some, Option.isSome_some, E.val, E.arr] at hclr
            have HCLR := Lib.hid hclr
            have HML := Lib.hid hml
            have HLM := Lib.hid hlm
            have HLL := Lib.hid hll
            have HEQ := Lib.hid (fun W => eqEntry ⟨f, e1, e2, e3, e4⟩ ⟨f, e1, e2, e3, e4⟩ 9999 W)
            simp only [E.arr, decide_true] at HEQ
            clear hclr hml hmm hmx hat hx hlm hll
            go_wp2_with fail
            refine (HCLR.out _ (by (repeat (first | assumption | refine Mut.drew ?_ | refine Mut.drewN ?_ _ | refine Mut.alloc ?_ _ | refine MB.drew ?_ | refine MB.drewN ?_ _ | refine MB.new ?_ _ _ | refine MB.alloc ?_ _ | refine Blk.drew ?_ | refine Blk.drewN ?_ _ | refine Blk.alloc ?_ _ | refine Below.drew ?_ | refine belowN ?_ _ | refine below_alloc ?_ _ (by first | omega | (simp; omega)))))).mono ?_
            rintro e w6 ⟨rfl, hM6⟩
            obtain ⟨x0, x1, x2, x3, x4, x5, xlt⟩ := mcells (hM6.blk (List.mem_cons_self ..))
            have hM6' := hM6.mut
            clear hnew c0 c1 c2 c3 c4 c5 hbl HCLR hM6
            go_wp2_with fail
            refine (len_mut (w := w5) (q := q3) (m := upd mm p none) (by (repeat (first | assumption | refine Mut.drew ?_ | refine Mut.drewN ?_ _ | refine Mut.alloc ?_ _ | refine MB.drew ?_ | refine MB.drewN ?_ _ | refine MB.new ?_ _ _ | refine MB.alloc ?_ _ | refine Blk.drew ?_ | refine Blk.drewN ?_ _ | refine Blk.alloc ?_ _ | refine Below.drew ?_ | refine belowN ?_ _ | refine below_alloc ?_ _ (by first | omega | (simp; omega)))))).mono ?_
            rintro e w7 ⟨rfl, hM7⟩
            rw [HML.out, HLL.out]
            go_wp2_with fail
            go_roundw
            case rel => exact ⟨j + 1, _, by omega, by go_num, by rw [HML.out, HLL.out], HML.out, hM7⟩
            case measure => simp [intOf]; omega
          · have : j = (list m).length := by omega
            subst this
            rw [List.drop_length] at hmm
            have hnone := list_nil hmm
            rw [hmm]
            have hh := hole_mut hM 64 (by omega) (by omega)
            rw [hole_all hnone] at hh
            have hc0 := cnt_none hnone 8 (by omega)
            have HH := Lib.hid hh
            clear hh hmm hnone
            go_wp2_with fail
            refine HH.out.mono ?_
            rintro e w6 ⟨rfl, hM6⟩
            go_wp2_with fail
            refine (parts_mut hM6).mono ?_
            rintro e w7 ⟨rfl, rfl⟩
            rw [hc0]
            go_wp2_with fail
            go_ret
            exact ⟨rfl, HBW.out _ _ hM6⟩

theorem own : ownKnob Try.prog.godebug = none := by kernel_rfl
theorem laidOut : laidOutB Try.prog = true := by kernel_rfl

set_option maxRecDepth 100000 in
theorem lifted (os : Os) (started : os.Started) (H : Type) (enc : TypeId × Value → H) :
    ReturnsInHanded {} Try.checked os 6 .any (Rows.pagesPartsSpec.pre6 enc Try.prog Try.f6 Rows.pagesPartsRow.domain false) (Rows.pagesPartsSpec.post enc Try.prog Try.f6 false true false false) := by
  refine returnsInHanded_of_change (C := Try.checked) own started (by kernel_rfl) Try.func6
    (ChangeSpec.witness6 (enc := enc) (C := Try.checked) false ⟨#[], #[.slice none 0 0], []⟩ 8 (by kernel_rfl) (by kernel_rfl) (by kernel_rfl) (by kernel_rfl)) ?_
  intro W base args ds gs before hval0 hW hcnd _
  have hval : ∀ (j : Nat) t v, Try.f6.params[j]? = some t → args[j]? = some v → Value.okWide Try.prog W .any base t v := hval0
  have hW' := hW
  obtain ⟨p, q, hA0, hV, rfl, hfz, hnd⟩ := hW
  have hA : DataW.TrodAll enc Try.prog W 0 (fun _ => true) true Try.f6.params.toList args.toList ds p := hA0
  rw [Try.params6] at hA hval
  obtain ⟨v0, d0, rfl, rfl, h0⟩ := trodAll_one hA
  obtain ⟨A, c, l, rfl, hO, hl⟩ := open_ops (hval 0 22 v0 rfl rfl) h0
  refine (walk A c l hO hl).mono fun e W' ⟨he, hb⟩ => ?_
  subst he
  exact ⟨_, rfl, law_post (tb := 4) laidOut (by kernel_rfl) rfl rfl Try.underlying4 hW' (fun _ => rfl) hb⟩

theorem holds : Rows.PagesPartsSaid :=
  OpenClaim.holds_of_wide 6 Try.f6 rfl rfl rfl rfl rfl rfl rfl ⟨rfl, rfl, rfl, rfl, rfl⟩ rfl rfl rfl rfl rfl (by kernel_rfl) Try.func6 (by kernel_rfl)
    (of_decide_eq_true (by kernel_rfl)) (by unfold Func.isWrapper; first | (rw [if_pos (by decide +kernel)]; kernel_rfl) | (rw [if_neg (by decide +kernel)]; exact ⟨rfl, rfl⟩))
    (fun os started H enc _ => lifted os started H enc)
end Go.Proofs.Ytgdimjcpdndklaa.lawPagesParts
