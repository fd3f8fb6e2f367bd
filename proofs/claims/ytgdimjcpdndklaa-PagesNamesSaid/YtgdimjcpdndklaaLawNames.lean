/-
  The law PagesNames answers true: the error has its number; the examples of the chapter; calls on none. No condition.
-/
import Derived.Test.YtgdimjcpdndklaaMut
import Derived.Test.YtgdimjcpdndklaaNil
namespace Go.Proofs.Ytgdimjcpdndklaa.lawPagesNames
open Go.ChangeShapes Go.WideShapes Go.ChangeAt Go.RowKit
set_option linter.unusedVariables false

set_option maxRecDepth 100000 in
theorem facts : look mS 9 = some ⟨3, true, false, false, false⟩ ∧ look (upd mS 9 none) 9 = none ∧ cntM (upd mS 9 none) 8 = 1 := by decide +kernel
theorem hole_mb {w W : World} {bt : Nat} {q : Nat → Option Nat} {m : M} {L : List (Nat × TypeId × Array Value)} (h : MB w bt q m L W) (n : Int) (hlo : -9223372036854775808 ≤ n) (hhi : n ≤ 9223372036854775807) : Calls Try.prog 12 #[.pointer (some ⟨bt, 0, none⟩), .int .i64 n] W
    fun e w' => e = .returned (.tuple #[.int .i64 (hole m n).1, .bool (hole m n).2]) ∧ MB w bt q m L w' := by
  obtain ⟨q1, ht, hb, ho, hL⟩ := id h
  exact (hole_any ht n hlo hhi).mono fun e w' ⟨he, hb⟩ => ⟨he, h.below hb⟩
theorem hole_zero (m : M) : hole m 0 = (0, false) := by unfold hole; rw [if_pos (by omega)]

set_option maxRecDepth 200000 in
set_option maxHeartbeats 8000000 in
theorem walk {w : World} : Calls Try.prog 8 #[] w fun e w' => e = .returned (.bool true) ∧ Below w.heap.size w w' := by
  obtain ⟨f1, f2, f3⟩ := facts
  go_enter Try.func8, Try.ntmps8
  go_wp2_with fail
  refine some_fn.mono ?_
  rintro e w1 ⟨rfl, hT1, hb1⟩
  generalize hbt : w.heap.size = bt at *
  obtain ⟨q, hq, hown⟩ := hT1
  have hlt1 : bt ≤ w1.heap.size := by have := hb1.size; omega
  have HBW := Lib.hid (fun W m' (h : Mut w1 bt q m' W) => hb1.trans (h.butOf.below (B := bt) (fun j hj => hown j hj) (by omega)))
  have hM := MB.ofMut (Mut.start hq)
  have HS1 := Lib.hid (fun W (h : MB w1 bt q mS [] W) => set_mb h E.zero 64)
  have HS2 := Lib.hid (fun W (h : MB w1 bt q mS [] W) => set_mb h ⟨0, false, true, true, false⟩ 0)
  have HS3 := Lib.hid (fun W (h : MB w1 bt q mS [] W) => set_mb h ⟨256, false, false, false, false⟩ 0)
  rw [show may 64 E.zero = false from by decide, show setM mS 64 E.zero = mS from by unfold setM; rw [show may 64 E.zero = false from by decide]; rfl] at HS1
  rw [show may 0 ⟨0, false, true, true, false⟩ = false from by decide, show setM mS 0 ⟨0, false, true, true, false⟩ = mS from by unfold setM; rw [show may 0 ⟨0, false, true, true, false⟩ = false from by decide]; rfl] at HS2
  rw [show may 0 ⟨256, false, false, false, false⟩ = false from by decide, show setM mS 0 ⟨256, false, false, false, false⟩ = mS from by unfold setM; rw [show may 0 ⟨256, false, false, false, false⟩ = false from by decide]; rfl] at HS3
  simp only [E.val, E.arr, E.zero, Bool.false_eq_true, if_false] at HS1 HS2 HS3
  have hc9 : ∀ m : M, clearM m 9 = upd m 9 none := fun m => by unfold clearM; rw [if_pos (by omega)]; rfl
  have HC1 := Lib.hid (fun W (h : MB w1 bt q mS [] W) => clear_mb h 9)
  rw [f1, hc9] at HC1
  simp only [gotV, Option.getD_some, Option.isSome_some, E.val, E.arr] at HC1
  have HH0 := Lib.hid (fun W L (h : MB w1 bt q (upd mS 9 none) L W) => hole_mb h 0 (by omega) (by omega))
  have HP := Lib.hid (fun W (h : Mut w1 bt q (upd mS 9 none) W) => parts_mut h)
  rw [hole_zero] at HH0
  rw [f3] at HP
  have hcc : clearM (upd mS 9 none) 9 = upd mS 9 none := by rw [hc9, upd_upd]
  have HCC := Lib.hid hcc
  have HF2 := Lib.hid f2
  have HGN := Lib.hid (fun W p => get_nil (w := W) p)
  have HCN := Lib.hid (fun W p => clear_nil (w := W) p)
  have HSN := Lib.hid (fun W => set_nil (w := W) E.zero 0)
  simp only [gotV, Option.getD_none, Option.isSome_none, E.val, E.arr, E.zero] at HGN HCN HSN
  have HEQ := Lib.hid (fun W => eqEntry ⟨3, true, false, false, false⟩ ⟨3, true, false, false, false⟩ 9999 W)
  simp only [E.arr, decide_true] at HEQ
  clear hc9 hcc f1 f2 f3 hq hown hb1
  go_wp2_with fail
  refine (HS1.out _ (by (repeat (first | assumption | refine Mut.drew ?_ | refine Mut.drewN ?_ _ | refine Mut.alloc ?_ _ | refine MB.drew ?_ | refine MB.drewN ?_ _ | refine MB.new ?_ _ _ | refine MB.alloc ?_ _ | refine Blk.drew ?_ | refine Blk.drewN ?_ _ | refine Blk.alloc ?_ _ | refine Below.drew ?_ | refine belowN ?_ _ | refine below_alloc ?_ _ (by first | omega | (simp; omega)))))).mono ?_
  clear hM
  rintro e w2 ⟨rfl, hM⟩
  go_wp2_with fail
  refine (HS2.out _ (by (repeat (first | assumption | refine Mut.drew ?_ | refine Mut.drewN ?_ _ | refine Mut.alloc ?_ _ | refine MB.drew ?_ | refine MB.drewN ?_ _ | refine MB.new ?_ _ _ | refine MB.alloc ?_ _ | refine Blk.drew ?_ | refine Blk.drewN ?_ _ | refine Blk.alloc ?_ _ | refine Below.drew ?_ | refine belowN ?_ _ | refine below_alloc ?_ _ (by first | omega | (simp; omega)))))).mono ?_
  clear hM
  rintro e w3 ⟨rfl, hM⟩
  go_wp2_with fail
  refine (HS3.out _ (by (repeat (first | assumption | refine Mut.drew ?_ | refine Mut.drewN ?_ _ | refine Mut.alloc ?_ _ | refine MB.drew ?_ | refine MB.drewN ?_ _ | refine MB.new ?_ _ _ | refine MB.alloc ?_ _ | refine Blk.drew ?_ | refine Blk.drewN ?_ _ | refine Blk.alloc ?_ _ | refine Below.drew ?_ | refine belowN ?_ _ | refine below_alloc ?_ _ (by first | omega | (simp; omega)))))).mono ?_
  clear hM
  rintro e w4 ⟨rfl, hM⟩
  go_wp2_with fail
  refine (HC1.out _ (by (repeat (first | assumption | refine Mut.drew ?_ | refine Mut.drewN ?_ _ | refine Mut.alloc ?_ _ | refine MB.drew ?_ | refine MB.drewN ?_ _ | refine MB.new ?_ _ _ | refine MB.alloc ?_ _ | refine Blk.drew ?_ | refine Blk.drewN ?_ _ | refine Blk.alloc ?_ _ | refine Below.drew ?_ | refine belowN ?_ _ | refine below_alloc ?_ _ (by first | omega | (simp; omega)))))).mono ?_
  clear hM
  rintro e w5 ⟨rfl, hM⟩
  have hnew := hM.new 29 #[.int .i64 3, .bool true, .bool false, .bool false, .bool false]
  generalize hox : w5.heap.size = ox at *
  clear hM
  have HG := Lib.hid (fun W (h : MB w1 bt q (upd mS 9 none) [(ox, 29, #[.int .i64 3, .bool true, .bool false, .bool false, .bool false])] W) => get_mb h 9)
  have HC2 := Lib.hid (fun W (h : MB w1 bt q (upd mS 9 none) [(ox, 29, #[.int .i64 3, .bool true, .bool false, .bool false, .bool false])] W) => clear_mb h 9)
  rw [HF2.out] at HG HC2
  rw [HCC.out] at HC2
  simp only [gotV, Option.getD_none, Option.isSome_none, E.val, E.arr, E.zero] at HG HC2
  go_wp2_with fail
  refine (HG.out _ (by (repeat (first | assumption | refine Mut.drew ?_ | refine Mut.drewN ?_ _ | refine Mut.alloc ?_ _ | refine MB.drew ?_ | refine MB.drewN ?_ _ | refine MB.new ?_ _ _ | refine MB.alloc ?_ _ | refine Blk.drew ?_ | refine Blk.drewN ?_ _ | refine Blk.alloc ?_ _ | refine Below.drew ?_ | refine belowN ?_ _ | refine below_alloc ?_ _ (by first | omega | (simp; omega)))))).mono ?_
  clear hnew
  rintro e w6 ⟨rfl, hM⟩
  go_wp2_with fail
  refine (HC2.out _ (by (repeat (first | assumption | refine Mut.drew ?_ | refine Mut.drewN ?_ _ | refine Mut.alloc ?_ _ | refine MB.drew ?_ | refine MB.drewN ?_ _ | refine MB.new ?_ _ _ | refine MB.alloc ?_ _ | refine Blk.drew ?_ | refine Blk.drewN ?_ _ | refine Blk.alloc ?_ _ | refine Below.drew ?_ | refine belowN ?_ _ | refine below_alloc ?_ _ (by first | omega | (simp; omega)))))).mono ?_
  clear hM
  rintro e w7 ⟨rfl, hM⟩
  go_wp2_with fail
  refine (HGN.out _ _).mono ?_
  rintro e w8 ⟨rfl, hb⟩
  have hM8 : MB w1 bt q (upd mS 9 none) [(ox, 29, #[.int .i64 3, .bool true, .bool false, .bool false, .bool false])] w8 := by refine MB.below ?_ hb; (repeat (first | assumption | refine Mut.drew ?_ | refine Mut.drewN ?_ _ | refine Mut.alloc ?_ _ | refine MB.drew ?_ | refine MB.drewN ?_ _ | refine MB.new ?_ _ _ | refine MB.alloc ?_ _ | refine Blk.drew ?_ | refine Blk.drewN ?_ _ | refine Blk.alloc ?_ _ | refine Below.drew ?_ | refine belowN ?_ _ | refine below_alloc ?_ _ (by first | omega | (simp; omega))))
  clear hM hb
  go_wp2_with fail
  refine (HCN.out _ _).mono ?_
  rintro e w9 ⟨rfl, hb⟩
  have hM9 : MB w1 bt q (upd mS 9 none) [(ox, 29, #[.int .i64 3, .bool true, .bool false, .bool false, .bool false])] w9 := by refine MB.below ?_ hb; (repeat (first | assumption | refine Mut.drew ?_ | refine Mut.drewN ?_ _ | refine Mut.alloc ?_ _ | refine MB.drew ?_ | refine MB.drewN ?_ _ | refine MB.new ?_ _ _ | refine MB.alloc ?_ _ | refine Blk.drew ?_ | refine Blk.drewN ?_ _ | refine Blk.alloc ?_ _ | refine Below.drew ?_ | refine belowN ?_ _ | refine below_alloc ?_ _ (by first | omega | (simp; omega))))
  clear hM8 hb
  have hnew := hM9.alloc (.cells #[.int .i64 0, .bool false, .bool false, .bool false, .bool false] 29)
  go_wp2_with fail
  refine (hole_nil _).mono ?_
  rintro e w10 ⟨rfl, rfl⟩
  go_wp2_with fail
  refine (HH0.out _ _ hnew).mono ?_
  rintro e w11 ⟨rfl, hM11⟩
  clear hnew hM9
  go_wp2_with fail
  refine alive_fn.mono ?_
  rintro e w12 ⟨rfl, hb⟩
  have hM12 := hM11.below hb
  clear hM11 hb
  obtain ⟨x0, x1, x2, x3, x4, xlt⟩ := ecells (hM12.blk (List.mem_cons_self ..))
  go_wp2_with fail
  refine (HP.out _ hM12.mut).mono ?_
  rintro e w13 ⟨rfl, rfl⟩
  clear x0 x1 x2 x3 x4 xlt
  go_wp2_with fail
  refine (HSN.out _).mono ?_
  rintro e w13 ⟨rfl, hb⟩
  have hM13 := hM12.below hb
  clear hM12 hb
  go_wp2_with fail
  refine (list_nilT _).mono ?_
  rintro e w14 ⟨rfl, hb⟩
  have hM14 := hM13.below hb
  clear hM13 hb
  go_wp2_with fail
  refine (len_nilT _).mono ?_
  rintro e w15 ⟨rfl, hb⟩
  have hM15 := hM14.below hb
  clear hM14 hb
  go_wp2_with fail
  refine parts_nil.mono ?_
  rintro e w19 ⟨rfl, rfl⟩
  go_wp2_with fail
  refine (dirty_nilT _).mono ?_
  rintro e w16 ⟨rfl, hb⟩
  have hM16 := hM15.below hb
  clear hM15 hb
  go_wp2_with fail
  refine (clean_nilT _).mono ?_
  rintro e w17 ⟨rfl, hb⟩
  have hM17 := hM16.below hb
  clear hM16 hb
  go_wp2_with fail
  refine copy_nil.mono ?_
  rintro e w20 ⟨rfl, rfl⟩
  go_wp2_with fail
  go_ret
  exact ⟨rfl, by rw [hbt]; exact HBW.out _ _ hM17.mut⟩

theorem own : ownKnob Try.prog.godebug = none := by kernel_rfl
theorem laidOut : laidOutB Try.prog = true := by kernel_rfl

set_option maxRecDepth 100000 in
theorem lifted (os : Os) (started : os.Started) (H : Type) (enc : TypeId × Value → H) :
    ReturnsInHanded {} Try.checked os 8 .any (Rows.pagesNamesSpec.pre6 enc Try.prog Try.f8 Rows.pagesNamesRow.domain false) (Rows.pagesNamesSpec.post enc Try.prog Try.f8 false true false false) := by
  refine returnsInHanded_of_change (C := Try.checked) own started (by kernel_rfl) Try.func8
    (ChangeSpec.witness6 (enc := enc) (C := Try.checked) false ⟨#[], #[], []⟩ 8 (by kernel_rfl) (by kernel_rfl) (by kernel_rfl) (by kernel_rfl)) ?_
  intro W base args ds gs before hval0 hW hcnd _
  have hval : ∀ (j : Nat) t v, Try.f8.params[j]? = some t → args[j]? = some v → Value.okWide Try.prog W .any base t v := hval0
  have hW' := hW
  obtain ⟨p, q, hA0, hV, rfl, hfz, hnd⟩ := hW
  have hA : DataW.TrodAll enc Try.prog W 0 (fun _ => true) true Try.f8.params.toList args.toList ds p := hA0
  rw [Try.params8] at hA hval
  obtain ⟨hv, rfl, rfl⟩ := trodAll_nil hA
  have hargs : args = #[] := by
    rcases args with ⟨as'⟩
    cases as' with
    | nil => rfl
    | cons a b => cases hv
  subst hargs
  refine walk.mono fun e W' ⟨he, hb⟩ => ?_
  subst he
  exact ⟨_, rfl, law_post (tb := 4) laidOut (by kernel_rfl) rfl rfl Try.underlying4 hW' (fun _ => rfl) hb⟩

theorem holds : Rows.PagesNamesSaid :=
  OpenClaim.holds_of_wide 8 Try.f8 rfl rfl rfl rfl rfl rfl rfl ⟨rfl, rfl, rfl, rfl, rfl⟩ rfl rfl rfl rfl rfl (by kernel_rfl) Try.func8 (by kernel_rfl)
    (of_decide_eq_true (by kernel_rfl)) (by unfold Func.isWrapper; first | (rw [if_pos (by decide +kernel)]; kernel_rfl) | (rw [if_neg (by decide +kernel)]; exact ⟨rfl, rfl⟩))
    (fun os started H enc _ => lifted os started H enc)
end Go.Proofs.Ytgdimjcpdndklaa.lawPagesNames
