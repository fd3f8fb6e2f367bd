/-
  The law PagesList answers true for every input: List tells just the pages of which Get tells one, rising. No condition.
-/
import Derived.Test.YtgdimjcpdndklaaMut
namespace Go.Proofs.Ytgdimjcpdndklaa.lawPagesList
open Go.ChangeShapes Go.WideShapes Go.ChangeAt Go.RowKit
set_option linter.unusedVariables false

theorem mapsAt_here {w : World} {b off : Nat} {l : List (Nat × E)} (h : MapsAt w (some ⟨b, off, none⟩) l) {i : Nat} {x : Nat × E} (hx : l[i]? = some x) : b < w.heap.size ∧ w.cell? ⟨b, off + i * 6, none⟩ = some (.int .i64 x.1) ∧ w.cell? ⟨b, off + i * 6 + 1, none⟩ = some (.int .i64 x.2.f) ∧
    w.cell? ⟨b, off + i * 6 + 1 + 1, none⟩ = some (.bool x.2.w) ∧ w.cell? ⟨b, off + i * 6 + 1 + 2, none⟩ = some (.bool x.2.s) ∧ w.cell? ⟨b, off + i * 6 + 1 + 3, none⟩ = some (.bool x.2.c) ∧ w.cell? ⟨b, off + i * 6 + 1 + 4, none⟩ = some (.bool x.2.d) := by
  obtain ⟨b', off', hA, r⟩ := h i x hx
  injection hA with hA
  injection hA with e1 e2 _
  subst e1 e2
  exact r
/-! ## the plain law -/
def dN (l : List (Nat × E)) : Nat := (filt E.d l).length
theorem list_at (m : M) {n : Nat} (hn : n < 64) {x : E} (h : m n = some x) : (list m)[(listN m 0 n).length]? = some (n, x) := by
  have hp := listN_prefix m 64 (n + 1) (by omega)
  rw [listN_hit m n h] at hp
  obtain ⟨t, ht⟩ := hp
  unfold list
  rw [← ht, List.append_assoc, List.getElem?_append_right (Nat.le_refl _)]
  simp
theorem dN_hit (m : M) (n : Nat) {x : E} (h : m n = some x) : dN (listN m 0 (n + 1)) = dN (listN m 0 n) + (if x.d then 1 else 0) := by
  rw [listN_hit m n h]
  unfold dN filt
  rw [List.filter_append, List.map_append, List.length_append]
  by_cases hd : x.d = true <;> simp [hd]
theorem list_cl (m : M) : ∀ k p, listN (cl m) p k = (listN m p k).map fun x => (x.1, cleanE x.2)
  | 0, p => rfl
  | k + 1, p => by
    rw [listN_snoc, listN_snoc, list_cl m k p, List.map_append]
    unfold cl
    cases m (p + k) <;> rfl
theorem len_cl (m : M) : (list (cl m)).length = (list m).length := by unfold list; rw [list_cl]; simp
theorem dirty_cl (m : M) : filt E.d (list (cl m)) = [] := by
  unfold list filt
  rw [list_cl]
  simp [List.filter_map, Function.comp_def, cleanE]

set_option maxRecDepth 100000 in
set_option maxHeartbeats 4000000 in
theorem walk {w : World} (A : Option Addr) (ca : Nat) (l : List O) (hO : OpsAt w A l) (hl : l.length ≤ maxLen) :
    Calls Try.prog 5 #[.slice A l.length ca] w fun e w' => e = .returned (.bool true) ∧ Below w.heap.size w w' := by
  unfold maxLen at hl
  by_cases hl150 : 150 < l.length
  · clear hO
    go_enter Try.func5, Try.ntmps5
    go_wp2_with (go_at_call 10; refine alive_fn.mono ?_; rintro e w1 ⟨rfl, hb1⟩)
    go_ret
    exact ⟨rfl, hb1⟩
  · have hle : l.length ≤ 150 := by omega
    clear hl150
    have HO := Lib.hid hO
    clear hO
    go_enter Try.func5, Try.ntmps5
    go_wp2_with fail
    refine alive_fn.mono ?_
    rintro e w1 ⟨rfl, hb1⟩
    have HO1 := Lib.hid (HO.out.below hb1)
    have hs1 := hb1.size
    go_wp2_with fail
    refine (grown_any A ca l hle HO1.out).mono ?_
    rintro e w2 ⟨rfl, hT2, hb2⟩
    generalize runM (fun _ => none) l = m at *
    generalize hbt : w1.heap.size = bt at *
    have hs2 := hb2.size
    have hB2 : Below w.heap.size w w2 := hb1.trans (hb2.mono (by omega))
    clear hb1 hb2
    go_wp2_with fail
    obtain ⟨q, hq, hown⟩ := hT2
    have hlt2 : ∀ j, Own bt q j → j < w2.heap.size := fun j hj => hq.own_lt hj
    refine (list_mut (Mut.start hq)).mono ?_
    rintro e w3 ⟨A1, c1, rfl, hA1, hnew1, hM3', hb3⟩
    have hs3 := hb3.size
    have hq3 := hq.below hb3 (Nat.le_refl _)
    have hB3 : Below w.heap.size w w3 := hB2.trans (hb3.mono (by omega))
    have HBW := Lib.hid (fun W m' (h : Mut w3 bt q m' W) => hB3.trans (h.butOf.below (B := w.heap.size) (fun j hj => by have := hown j hj; omega) (by omega)))
    have HAW := Lib.hid (fun W m' (h : Mut w3 bt q m' W) => mapsAt_but hA1 h.butOf (fun _ b off hA hj => by have := hnew1 b off hA; have := hlt2 _ hj; omega))
    have hM3 := Mut.start hq3
    clear hA1 hnew1 hM3' hb3 hq hq3 hB3 hB2 hown hlt2
    have hlen := list_len m
    go_wp2_with fail
    go_loopw [6, 7, 8] (fun sk sd sn wr => ∃ n : Nat, n ≤ 64 ∧ sn = .int .i64 n ∧ sk = .int .i64 (listN m 0 n).length ∧ sd = .int .i64 (dN (listN m 0 n)) ∧ Mut w3 bt q m wr) (fun _ _ sn _ => 64 - (intOf sn).toNat)
    case atStart => exact ⟨0, by omega, rfl, rfl, rfl, hM3⟩
    case round =>
      obtain ⟨n, hn, rfl, rfl, rfl, hM⟩ := hrel
      clear hM3
      have hkb : (listN m 0 n).length ≤ 64 := Nat.le_trans (listN_len m n 0) hn
      have hdb : dN (listN m 0 n) ≤ 64 := Nat.le_trans (by unfold dN filt; rw [List.length_map]; exact List.length_filter_le _ _) hkb
      by_cases hn64 : n < 64
      · have hnb : (n : Int) < 64 := by omega
        have hg := get_mut hM (n : Int)
        rw [look_nat m hn64] at hg
        cases hmn : m n with
        | none =>
          have hms := listN_miss m n hmn
          rw [hmn] at hg
          simp only [gotV, Option.getD_none, Option.isSome_none, E.val, E.arr, E.zero] at hg
          have HG := Lib.hid hg
          have HMS := Lib.hid hms
          clear hg hms hmn
          go_wp2_with (go_at_call 13; refine HG.out.mono ?_; rintro e w4 ⟨rfl, hM4⟩)
          go_roundw
          case rel => exact ⟨n + 1, by omega, by go_num, by rw [HMS.out], by rw [HMS.out], by (repeat (first | assumption | refine Mut.drew ?_ | refine Mut.drewN ?_ _ | refine Mut.alloc ?_ _ | refine MB.drew ?_ | refine MB.drewN ?_ _ | refine MB.new ?_ _ _ | refine MB.alloc ?_ _ | refine Blk.drew ?_ | refine Blk.drewN ?_ _ | refine Blk.alloc ?_ _ | refine Below.drew ?_ | refine belowN ?_ _ | refine below_alloc ?_ _ (by first | omega | (simp; omega))))⟩
          case measure => simp [intOf]; omega
        | some x =>
          have hat := list_at m hn64 hmn
          have hhit := listN_hit m n hmn
          have hdh := dN_hit m n hmn
          rw [hmn] at hg
          obtain ⟨f, e1, e2, e3, e4⟩ := x
          simp only [gotV, Option.getD_some, Option.isSome_some, E.val, E.arr] at hg
          have hkl : (listN m 0 n).length < (list m).length := (List.getElem?_eq_some_iff.1 hat).1
          have hlh : (listN m 0 (n + 1)).length = (listN m 0 n).length + 1 := by rw [hhit]; simp
          generalize listN m 0 n = ln at *
          generalize dN ln = dn at *
          obtain ⟨k, hk⟩ : ∃ k, ln.length = k := ⟨_, rfl⟩
          rw [hk] at hat hkl hlh hkb
          have hge : ((k : Int) ≥ ((list m).length : Int)) = False := by simp; omega
          have hkl' : (k : Int) < ((list m).length : Int) := by omega
          have HG := Lib.hid hg
          obtain ⟨b, off, rfl, _⟩ := HAW.out _ m hM k _ hat
          have HAT := Lib.hid (fun W (h : Mut w3 bt q m W) => mapsAt_here (HAW.out W m h) hat)
          have HDH := Lib.hid hdh
          have HLH := Lib.hid hlh
          have HEQ := Lib.hid (fun W => eqEntry ⟨f, e1, e2, e3, e4⟩ ⟨f, e1, e2, e3, e4⟩ 9999 W)
          simp only [E.arr, decide_true] at HEQ
          clear hg hat hhit hdh hlh hmn
          rw [hk]
          cases e4 with
          | false =>
            simp only [Bool.false_eq_true, if_false, Nat.add_zero] at HDH
            go_wp2_with (first | (go_at_call 13; refine HG.out.mono ?_; rintro e w4 ⟨rfl, hM4⟩; obtain ⟨hbl, c0, c1, c2, c3, c4, c5⟩ := HAT.out _ hM4) | go_quiet (fail))
            go_roundw
            case rel => exact ⟨n + 1, by omega, by go_num, by rw [HLH.out]; go_num, by rw [HDH.out] <;> go_num, by (repeat (first | assumption | refine Mut.drew ?_ | refine Mut.drewN ?_ _ | refine Mut.alloc ?_ _ | refine MB.drew ?_ | refine MB.drewN ?_ _ | refine MB.new ?_ _ _ | refine MB.alloc ?_ _ | refine Blk.drew ?_ | refine Blk.drewN ?_ _ | refine Blk.alloc ?_ _ | refine Below.drew ?_ | refine belowN ?_ _ | refine below_alloc ?_ _ (by first | omega | (simp; omega))))⟩
            case measure => simp [intOf]; omega
          | true =>
            simp only [if_true] at HDH
            go_wp2_with (first | (go_at_call 13; refine HG.out.mono ?_; rintro e w4 ⟨rfl, hM4⟩; obtain ⟨hbl, c0, c1, c2, c3, c4, c5⟩ := HAT.out _ hM4) | go_quiet (fail))
            go_roundw
            case rel => exact ⟨n + 1, by omega, by go_num, by rw [HLH.out]; go_num, by rw [HDH.out] <;> go_num, by (repeat (first | assumption | refine Mut.drew ?_ | refine Mut.drewN ?_ _ | refine Mut.alloc ?_ _ | refine MB.drew ?_ | refine MB.drewN ?_ _ | refine MB.new ?_ _ _ | refine MB.alloc ?_ _ | refine Blk.drew ?_ | refine Blk.drewN ?_ _ | refine Blk.alloc ?_ _ | refine Below.drew ?_ | refine belowN ?_ _ | refine below_alloc ?_ _ (by first | omega | (simp; omega))))⟩
            case measure => simp [intOf]; omega
      · have : n = 64 := by omega
        subst this
        have hkl : (listN m 0 64).length = (list m).length := rfl
        have hd : dN (listN m 0 64) = (filt E.d (list m)).length := rfl
        rw [hkl, hd]
        have hlc := len_cl m
        have hdc := dirty_cl m
        rw [hkl] at hkb
        rw [hd] at hdb
        clear hkl hd
        go_wp2_with fail
        refine (clean_mut hM).mono ?_
        rintro e w5 ⟨rfl, hM5⟩
        go_wp2_with fail
        refine (len_mut hM5).mono ?_
        rintro e w6 ⟨rfl, hM6⟩
        rw [hlc]
        obtain ⟨q6, ht6, _, _⟩ := id hM6
        have HD := Lib.hid (dirty_any ht6)
        clear ht6
        go_wp2_with fail
        refine HD.out.mono ?_
        rintro e w7 ⟨v, rfl, _, hv, hb7⟩
        rw [hv.2 hdc]
        have hM7 := hM6.below hb7
        clear hv HD
        go_wp2_with fail
        go_ret
        exact ⟨rfl, HBW.out _ _ hM7⟩

theorem own : ownKnob Try.prog.godebug = none := by kernel_rfl
theorem laidOut : laidOutB Try.prog = true := by kernel_rfl

set_option maxRecDepth 100000 in
theorem lifted (os : Os) (started : os.Started) (H : Type) (enc : TypeId × Value → H) :
    ReturnsInHanded {} Try.checked os 5 .any (Rows.pagesListSpec.pre6 enc Try.prog Try.f5 Rows.pagesListRow.domain false) (Rows.pagesListSpec.post enc Try.prog Try.f5 false true false false) := by
  refine returnsInHanded_of_change (C := Try.checked) own started (by kernel_rfl) Try.func5
    (ChangeSpec.witness6 (enc := enc) (C := Try.checked) false ⟨#[], #[.slice none 0 0], []⟩ 8 (by kernel_rfl) (by kernel_rfl) (by kernel_rfl) (by kernel_rfl)) ?_
  intro W base args ds gs before hval0 hW hcnd _
  have hval : ∀ (j : Nat) t v, Try.f5.params[j]? = some t → args[j]? = some v → Value.okWide Try.prog W .any base t v := hval0
  have hW' := hW
  obtain ⟨p, q, hA0, hV, rfl, hfz, hnd⟩ := hW
  have hA : DataW.TrodAll enc Try.prog W 0 (fun _ => true) true Try.f5.params.toList args.toList ds p := hA0
  rw [Try.params5] at hA hval
  obtain ⟨v0, d0, rfl, rfl, h0⟩ := trodAll_one hA
  obtain ⟨A, c, l, rfl, hO, hl⟩ := open_ops (hval 0 22 v0 rfl rfl) h0
  refine (walk A c l hO hl).mono fun e W' ⟨he, hb⟩ => ?_
  subst he
  exact ⟨_, rfl, law_post (tb := 4) laidOut (by kernel_rfl) rfl rfl Try.underlying4 hW' (fun _ => rfl) hb⟩

theorem holds : Rows.PagesListSaid :=
  OpenClaim.holds_of_wide 5 Try.f5 rfl rfl rfl rfl rfl rfl rfl ⟨rfl, rfl, rfl, rfl, rfl⟩ rfl rfl rfl rfl rfl (by kernel_rfl) Try.func5 (by kernel_rfl)
    (of_decide_eq_true (by kernel_rfl)) (by unfold Func.isWrapper; first | (rw [if_pos (by decide +kernel)]; kernel_rfl) | (rw [if_neg (by decide +kernel)]; exact ⟨rfl, rfl⟩))
    (fun os started H enc _ => lifted os started H enc)
end Go.Proofs.Ytgdimjcpdndklaa.lawPagesList
