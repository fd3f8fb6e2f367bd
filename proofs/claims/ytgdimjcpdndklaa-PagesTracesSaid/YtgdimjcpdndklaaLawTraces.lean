/-
  The law PagesTraces answers true for every input: a page that had none, and is set, and cleared, leaves no trace. No condition.
-/
import Derived.Test.YtgdimjcpdndklaaMut
namespace Go.Proofs.Ytgdimjcpdndklaa.lawPagesTraces
open Go.ChangeShapes Go.WideShapes Go.ChangeAt Go.RowKit
set_option linter.unusedVariables false

set_option maxRecDepth 100000 in
set_option maxHeartbeats 4000000 in
theorem walk {w : World} (A : Option Addr) (ca : Nat) (l : List O) (hO : OpsAt w A l) (hl : l.length ≤ maxLen) (n : Nat) (hn : n < 256) (x : E) :
    Calls Try.prog 4 #[.slice A l.length ca, .int .u8 n, x.val] w fun e w' => e = .returned (.bool true) ∧ Below w.heap.size w w' := by
  unfold maxLen at hl
  obtain ⟨xf, xw, xs, xc, xd⟩ := x
  simp only [E.val, E.arr]
  by_cases hl150 : 150 < l.length
  · clear hO
    go_enter Try.func4, Try.ntmps4
    go_wp2_with (go_at_call 10; refine alive_fn.mono ?_; rintro e w1 ⟨rfl, hb1⟩)
    go_ret
    exact ⟨rfl, ((Below.refl _ _).alloc (Nat.le_refl _) _).trans (hb1.mono (by simp))⟩
  · have hle : l.length ≤ 150 := by omega
    clear hl150
    have HO := Lib.hid hO
    clear hO
    go_enter Try.func4, Try.ntmps4
    go_wp2_with fail
    refine alive_fn.mono ?_
    rintro e w1 ⟨rfl, hb1⟩
    have hB1 : Below w.heap.size w w1 := ((Below.refl _ _).alloc (Nat.le_refl _) _).trans (hb1.mono (by simp))
    have hX1 : Blk w1 w.heap.size 29 #[.int .i64 xf, .bool xw, .bool xs, .bool xc, .bool xd] := (Blk.new w _ _).below hb1 (by simp)
    have hs1 := hb1.size
    rw [World.size_alloc] at hs1
    have HO1 := Lib.hid (HO.out.below hB1)
    go_wp2_with fail
    refine (grown_any A ca l hle HO1.out).mono ?_
    rintro e w2 ⟨rfl, hT2, hb2⟩
    have hgood := good_none l
    generalize runM (fun _ => none) l = m at *
    generalize hbt : w1.heap.size = bt at *
    have hs2 := hb2.size
    have hX2 := hX1.below hb2 (by omega)
    have hB2 : Below w.heap.size w w2 := hB1.trans (hb2.mono (by omega))
    generalize hbx : w.heap.size = bx at *
    clear hX1 hb1 hb2
    go_wp2_with fail
    rw [show ((n : Int) % 64) = ((n % 64 : Nat) : Int) from by omega]
    have hk64 : n % 64 < 64 := by omega
    generalize n % 64 = k at *
    obtain ⟨q, hq, hown⟩ := hT2
    have hlt2 : ∀ j, Own bt q j → j < w2.heap.size := fun j hj => hq.own_lt hj
    refine (list_mut (Mut.start hq)).mono ?_
    rintro e w3 ⟨A1, c1, rfl, hA1, hnew1, hM3', hb3⟩
    have hs3 := hb3.size
    have hq3 := hq.below hb3 (Nat.le_refl _)
    have hX3 := hX2.below hb3 (by omega)
    have hB3 : Below bx w w3 := hB2.trans (hb3.mono (by omega))
    have HXW := Lib.hid (fun W m' (h : Mut w3 bt q m' W) => hX3.but h.butOf (fun hj => by have := hown _ hj; omega))
    have HBW := Lib.hid (fun W m' (h : Mut w3 bt q m' W) => hB3.trans (h.butOf.below (B := bx) (fun j hj => by have := hown j hj; omega) (by omega)))
    have HAW := Lib.hid (fun W m' (h : Mut w3 bt q m' W) => mapsAt_but hA1 h.butOf (fun _ b off hA hj => by have := hnew1 b off hA; have := hlt2 _ hj; omega))
    have hM3 := Mut.start hq3
    clear hA1 hnew1 hM3' hb3 hq hq3 hX3 hX2 hB3 hB2 hown hlt2 hB1
    go_wp2_with fail
    refine (parts_mut hM3).mono ?_
    rintro e w4 ⟨rfl, rfl⟩
    go_wp2_with fail
    refine (get_mut hM3 k).mono ?_
    rintro e w4 ⟨rfl, hM4⟩
    rw [look_nat m hk64]
    obtain ⟨x0, x1, x2, x3, x4, xlt⟩ := ecells (HXW.out _ _ hM4)
    have HS := Lib.hid (fun W (h : Mut w3 bt q m W) => set_mut h ⟨xf, xw, xs, xc, xd⟩ (k : Int))
    simp only [E.val, E.arr] at HS
    by_cases hok : (⟨xf, xw, xs, xc, xd⟩ : E).ok = true
    · have hmay : may (k : Int) ⟨xf, xw, xs, xc, xd⟩ = true := by unfold may; simp [hok]; omega
      obtain ⟨y, b, hyb, hym⟩ : ∃ (y : E) (b : Bool), gotV (m k) = .tuple #[y.val, .bool b] ∧ (b = true ∧ m k = some y ∨ b = false ∧ m k = none) := by
        cases hmk : m k with
        | none => exact ⟨_, _, rfl, .inr ⟨rfl, rfl⟩⟩
        | some y => exact ⟨y, true, rfl, .inl ⟨rfl, rfl⟩⟩
      rw [hyb]
      clear hyb HS
      obtain ⟨yf, yw, ys, yc, yd⟩ := y
      have hyok : b = true → (⟨yf, yw, ys, yc, yd⟩ : E).ok = true := fun hb => by
        rcases hym with ⟨_, h⟩ | ⟨h, _⟩
        · exact hgood _ _ h
        · rw [hb] at h; cases h
      have HYM := Lib.hid hym
      have HYOK := Lib.hid hyok
      clear hym hyok hgood
      simp only [E.val, E.arr]
      have hMB4 := MB.ofMut hM4
      have hM4' := hM4
      generalize ho4 : w4.heap.size = o4 at *
      have hnew4 : MB w3 bt q m [(o4, 29, #[.int .i64 yf, .bool yw, .bool ys, .bool yc, .bool yd])] (w4.alloc (.cells #[.int .i64 yf, .bool yw, .bool ys, .bool yc, .bool yd] 29)) := by rw [← ho4]; exact MB.new hMB4 _ _
      have HS := Lib.hid (fun W (h : MB w3 bt q m [(o4, 29, #[.int .i64 yf, .bool yw, .bool ys, .bool yc, .bool yd])] W) => set_mb h ⟨xf, xw, xs, xc, xd⟩ (k : Int))
      rw [hmay, setM_good hk64 hok] at HS
      simp only [E.val, E.arr, if_true] at HS
      go_wp2_with fail
      refine (HS.out _ (by (repeat (first | assumption | refine Mut.drew ?_ | refine Mut.drewN ?_ _ | refine Mut.alloc ?_ _ | refine MB.drew ?_ | refine MB.drewN ?_ _ | refine MB.new ?_ _ _ | refine MB.alloc ?_ _ | refine Blk.drew ?_ | refine Blk.drewN ?_ _ | refine Blk.alloc ?_ _ | refine Below.drew ?_ | refine belowN ?_ _ | refine below_alloc ?_ _ (by first | omega | (simp; omega)))))).mono ?_
      rintro e w5 ⟨rfl, hM5⟩
      clear x0 x1 x2 x3 x4 xlt hnew4 hM4' hMB4
      have HG := Lib.hid (get_mb hM5 (k : Int))
      rw [look_nat _ hk64, upd_at] at HG
      simp only [gotV, Option.getD_some, Option.isSome_some, E.val, E.arr] at HG
      go_wp2_with fail
      refine HG.out.mono ?_
      rintro e w6 ⟨rfl, hM6⟩
      clear HG hM5
      generalize ho6 : w6.heap.size = o6 at *
      have hnew6 := hM6.new 29 #[.int .i64 xf, .bool xw, .bool xs, .bool xc, .bool xd]
      rw [ho6] at hnew6
      have HC := Lib.hid (fun W (h : MB w3 bt q (upd m k (some ⟨xf, xw, xs, xc, xd⟩)) [(o6, 29, #[.int .i64 xf, .bool xw, .bool xs, .bool xc, .bool xd]), (o4, 29, #[.int .i64 yf, .bool yw, .bool ys, .bool yc, .bool yd])] W) => clear_mb h (k : Int))
      rw [look_nat _ hk64, upd_at, clearM_good hk64, upd_upd] at HC
      simp only [gotV, Option.getD_some, Option.isSome_some, E.val, E.arr] at HC
      go_wp2_with fail
      refine (HC.out _ (by (repeat (first | assumption | refine Mut.drew ?_ | refine Mut.drewN ?_ _ | refine Mut.alloc ?_ _ | refine MB.drew ?_ | refine MB.drewN ?_ _ | refine MB.new ?_ _ _ | refine MB.alloc ?_ _ | refine Blk.drew ?_ | refine Blk.drewN ?_ _ | refine Blk.alloc ?_ _ | refine Below.drew ?_ | refine belowN ?_ _ | refine below_alloc ?_ _ (by first | omega | (simp; omega)))))).mono ?_
      rintro e w7 ⟨rfl, hM7⟩
      obtain ⟨x0, x1, x2, x3, x4, xlt⟩ := ecells (HXW.out _ _ hM7.mut)
      obtain ⟨y0, y1, y2, y3, y4, ylt⟩ := ecells (hM7.blk (List.mem_cons_self ..))
      have hM7' := hM7.tail
      clear HC hM6 hnew6
      obtain ⟨o0, o1, o2, o3, o4, olt⟩ := ecells (hM7'.blk (List.mem_cons_self ..))
      have HEQ := Lib.hid (fun W => eqEntry ⟨xf, xw, xs, xc, xd⟩ ⟨xf, xw, xs, xc, xd⟩ 9999 W)
      simp only [E.arr, decide_true] at HEQ
      cases b with
      | false =>
        have hmk : m k = none := by
          rcases HYM.out with ⟨h, _⟩ | ⟨_, h⟩
          · cases h
          · exact h
        have hM7m := hM7.mut
        rw [upd_self m k none hmk] at hM7m
        clear HYM HYOK hM7' o0 o1 o2 o3 o4 olt hM7 hmk hM4 hM3
        go_wp2_with fail
        refine (list_mut (w := w3) (q := q) (m := m) (by (repeat (first | assumption | refine Mut.drew ?_ | refine Mut.drewN ?_ _ | refine Mut.alloc ?_ _ | refine MB.drew ?_ | refine MB.drewN ?_ _ | refine MB.new ?_ _ _ | refine MB.alloc ?_ _ | refine Blk.drew ?_ | refine Blk.drewN ?_ _ | refine Blk.alloc ?_ _ | refine Below.drew ?_ | refine belowN ?_ _ | refine below_alloc ?_ _ (by first | omega | (simp; omega)))))).mono ?_
        rintro e w8 ⟨A2, c2, rfl, hA2, _, hM8, hb8⟩
        have HA2 := Lib.hid hA2
        clear hA2 hM7m
        have hlen := list_len m
        go_wp2_with fail
        refine (same_any A2 A1 c2 c1 (list m) (list m) HA2.out (HAW.out _ _ hM8) (by omega) (by omega)).mono ?_
        rintro e w9 ⟨rfl, hb9⟩
        rw [show decide (list m = list m) = true from decide_eq_true rfl]
        have hM9 := hM8.below hb9
        go_wp2_with fail
        refine (parts_mut hM9).mono ?_
        rintro e w10 ⟨rfl, rfl⟩
        go_wp2_with fail
        go_ret
        exact ⟨rfl, by rw [hbx]; exact HBW.out _ _ hM9⟩
      | true =>
        have hmk : m k = some ⟨yf, yw, ys, yc, yd⟩ := by
          rcases HYM.out with ⟨_, h⟩ | ⟨h, _⟩
          · exact h
          · cases h
        have hyok := HYOK.out rfl
        have hmay2 : may (k : Int) ⟨yf, yw, ys, yc, yd⟩ = true := by unfold may; simp [hyok]; omega
        have HS2 := Lib.hid (fun W (h : Mut w3 bt q (upd m k none) W) => set_mut h ⟨yf, yw, ys, yc, yd⟩ (k : Int))
        rw [hmay2, setM_good hk64 hyok, upd_upd, upd_self m k _ hmk] at HS2
        simp only [E.val, E.arr, if_true] at HS2
        have hM7m := hM7.mut
        clear HYM HYOK hM7' hM7 hmk hyok hmay2 hM4 hM3
        go_wp2_with fail
        refine (HS2.out _ (by (repeat (first | assumption | refine Mut.drew ?_ | refine Mut.drewN ?_ _ | refine Mut.alloc ?_ _ | refine MB.drew ?_ | refine MB.drewN ?_ _ | refine MB.new ?_ _ _ | refine MB.alloc ?_ _ | refine Blk.drew ?_ | refine Blk.drewN ?_ _ | refine Blk.alloc ?_ _ | refine Below.drew ?_ | refine belowN ?_ _ | refine below_alloc ?_ _ (by first | omega | (simp; omega)))))).mono ?_
        rintro e w8 ⟨rfl, hM8⟩
        clear x0 x1 x2 x3 x4 xlt y0 y1 y2 y3 y4 ylt o0 o1 o2 o3 o4 olt hM7m HS2
        go_wp2_with fail
        refine (list_mut hM8).mono ?_
        rintro e w9 ⟨A2, c2, rfl, hA2, _, hM9, hb9⟩
        have HA2 := Lib.hid hA2
        clear hA2 hM8
        have hlen := list_len m
        go_wp2_with fail
        refine (same_any A2 A1 c2 c1 (list m) (list m) HA2.out (HAW.out _ _ hM9) (by omega) (by omega)).mono ?_
        rintro e w10 ⟨rfl, hb10⟩
        rw [show decide (list m = list m) = true from decide_eq_true rfl]
        have hM10 := hM9.below hb10
        go_wp2_with fail
        refine (parts_mut hM10).mono ?_
        rintro e w11 ⟨rfl, rfl⟩
        go_wp2_with fail
        go_ret
        exact ⟨rfl, by rw [hbx]; exact HBW.out _ _ hM10⟩
    · have hmay : may (k : Int) ⟨xf, xw, xs, xc, xd⟩ = false := by unfold may; simp [hok]
      rw [hmay, setM_bad (by simpa using hok)] at HS
      simp only [Bool.false_eq_true, if_false] at HS
      obtain ⟨y, b, hyb⟩ : ∃ (y : E) (b : Bool), gotV (m k) = .tuple #[y.val, .bool b] := ⟨_, _, rfl⟩
      rw [hyb]
      clear hyb
      obtain ⟨yf, yw, ys, yc, yd⟩ := y
      simp only [E.val, E.arr]
      go_wp2_with fail
      refine (HS.out _ (by (repeat (first | assumption | refine Mut.drew ?_ | refine Mut.drewN ?_ _ | refine Mut.alloc ?_ _ | refine MB.drew ?_ | refine MB.drewN ?_ _ | refine MB.new ?_ _ _ | refine MB.alloc ?_ _ | refine Blk.drew ?_ | refine Blk.drewN ?_ _ | refine Blk.alloc ?_ _ | refine Below.drew ?_ | refine belowN ?_ _ | refine below_alloc ?_ _ (by first | omega | (simp; omega)))))).mono ?_
      rintro e w5 ⟨rfl, hM5⟩
      clear x0 x1 x2 x3 x4 xlt
      obtain ⟨x0, x1, x2, x3, x4, xlt⟩ := ecells (HXW.out _ _ hM5)
      have HCK := Lib.hid (fun W => check_any ⟨xf, xw, xs, xc, xd⟩ W)
      simp only [code, hok, E.val, E.arr, Bool.false_eq_true, if_false] at HCK
      clear hmay hok
      go_wp2_with fail
      refine (HCK.out _).mono ?_
      rintro e w6 ⟨rfl, hb6⟩
      have hM6 : Mut w3 bt q m w6 := by refine Mut.below ?_ hb6; (repeat (first | assumption | refine Mut.drew ?_ | refine Mut.drewN ?_ _ | refine Mut.alloc ?_ _ | refine MB.drew ?_ | refine MB.drewN ?_ _ | refine MB.new ?_ _ _ | refine MB.alloc ?_ _ | refine Blk.drew ?_ | refine Blk.drewN ?_ _ | refine Blk.alloc ?_ _ | refine Below.drew ?_ | refine belowN ?_ _ | refine below_alloc ?_ _ (by first | omega | (simp; omega))))
      clear x0 x1 x2 x3 x4 xlt
      go_wp2_with fail
      refine (list_mut hM6).mono ?_
      rintro e w7 ⟨A2, c2, rfl, hA2, _, hM7, hb7⟩
      have HA2 := Lib.hid hA2
      clear hA2
      go_wp2_with fail
      have hlen := list_len m
      refine (same_any A2 A1 c2 c1 (list m) (list m) HA2.out (HAW.out _ _ hM7) (by omega) (by omega)).mono ?_
      rintro e w8 ⟨rfl, hb8⟩
      rw [show decide (list m = list m) = true from decide_eq_true rfl]
      have hM8 := hM7.below hb8
      go_wp2_with fail
      go_ret
      exact ⟨rfl, by rw [hbx]; exact HBW.out _ _ hM8⟩

theorem own : ownKnob Try.prog.godebug = none := by kernel_rfl
theorem laidOut : laidOutB Try.prog = true := by kernel_rfl

set_option maxRecDepth 100000 in
theorem lifted (os : Os) (started : os.Started) (H : Type) (enc : TypeId × Value → H) :
    ReturnsInHanded {} Try.checked os 4 .any (Rows.pagesTracesSpec.pre6 enc Try.prog Try.f4 Rows.pagesTracesRow.domain false) (Rows.pagesTracesSpec.post enc Try.prog Try.f4 false true false false) := by
  refine returnsInHanded_of_change (C := Try.checked) own started (by kernel_rfl) Try.func4
    (ChangeSpec.witness6 (enc := enc) (C := Try.checked) false ⟨#[], #[.slice none 0 0, .int .u8 0, .agg #[.int .i64 0, .bool false, .bool false, .bool false, .bool false]], []⟩ 8 (by kernel_rfl) (by kernel_rfl) (by kernel_rfl) (by kernel_rfl)) ?_
  intro W base args ds gs before hval0 hW hcnd _
  have hval : ∀ (j : Nat) t v, Try.f4.params[j]? = some t → args[j]? = some v → Value.okWide Try.prog W .any base t v := hval0
  have hW' := hW
  obtain ⟨p, q, hA0, hV, rfl, hfz, hnd⟩ := hW
  have hA : DataW.TrodAll enc Try.prog W 0 (fun _ => true) true Try.f4.params.toList args.toList ds p := hA0
  rw [Try.params4] at hA hval
  obtain ⟨v0, v1, v2, d0, d1, d2, p0, p1, p2, rfl, rfl, rfl, h0, h1, h2⟩ := trodAll_three hA
  obtain ⟨A, c, l, rfl, hO, hl⟩ := open_ops (hval 0 22 v0 rfl rfl) h0
  obtain ⟨n, rfl, e1, e2, wn⟩ := open_int Try.underlying5 (hval 1 5 v1 rfl rfl) h1
  have hn : 0 ≤ n ∧ n ≤ 255 := by simpa [Lit.wf, IntKind.min, IntKind.max, IntKind.signed, IntKind.bits] using wn
  obtain ⟨k, rfl⟩ := Int.eq_ofNat_of_zero_le hn.1
  obtain ⟨cs, rfl, hcs⟩ := okWide_struct Try.underlying29 (hval 2 29 v2 rfl rfl)
  obtain ⟨fuel, hf⟩ := h2
  obtain ⟨x, hx⟩ := trod_entry hf
  have hcx : cs = x.arr := by
    have : cs.toList = x.arr.toList := hx
    exact Array.toList_inj.1 this
  subst hcx
  refine (walk A c l hO hl k (by omega) x).mono fun e W' ⟨he, hb⟩ => ?_
  subst he
  exact ⟨_, rfl, law_post (tb := 4) laidOut (by kernel_rfl) rfl rfl Try.underlying4 hW' (fun _ => rfl) hb⟩

theorem holds : Rows.PagesTracesSaid :=
  OpenClaim.holds_of_wide 4 Try.f4 rfl rfl rfl rfl rfl rfl rfl ⟨rfl, rfl, rfl, rfl, rfl⟩ rfl rfl rfl rfl rfl (by kernel_rfl) Try.func4 (by kernel_rfl)
    (of_decide_eq_true (by kernel_rfl)) (by unfold Func.isWrapper; first | (rw [if_pos (by decide +kernel)]; kernel_rfl) | (rw [if_neg (by decide +kernel)]; exact ⟨rfl, rfl⟩))
    (fun os started H enc _ => lifted os started H enc)
end Go.Proofs.Ytgdimjcpdndklaa.lawPagesTraces
