/-
  The law PagesPlays answers true for every input: whatever is set and cleared, a table answers what the document says. No condition.
-/
import Derived.Test.YtgdimjcpdndklaaRef7
namespace Go.Proofs.Ytgdimjcpdndklaa.lawPagesPlays
open Go.ChangeShapes Go.WideShapes Go.ChangeAt Go.RowKit
set_option linter.unusedVariables false
set_option linter.unusedSimpArgs false

theorem ocells {w : World} {g : Nat} {t : TypeId} {a b c d e f h : Value} (hb : Blk w g t #[a, b, c, d, e, f, h]) : w.cell? ⟨g, 0, none⟩ = some a ∧ w.cell? ⟨g, 1, none⟩ = some b ∧ w.cell? ⟨g, 2, none⟩ = some c ∧ w.cell? ⟨g, 3, none⟩ = some d ∧ w.cell? ⟨g, 4, none⟩ = some e ∧ w.cell? ⟨g, 5, none⟩ = some f ∧ w.cell? ⟨g, 6, none⟩ = some h ∧ g < w.heap.size :=
  ⟨hb.cell 0, hb.cell 1, hb.cell 2, hb.cell 3, hb.cell 4, hb.cell 5, hb.cell 6, hb.lt⟩

set_option maxRecDepth 100000 in
set_option maxHeartbeats 8000000 in
theorem walk {w : World} (A : Option Addr) (ca : Nat) (l : List O) (hO : OpsAt w A l) (hl : l.length ≤ maxLen) (n : Int) (hlo : -9223372036854775808 ≤ n) (hhi : n ≤ 9223372036854775807) :
    Calls Try.prog 7 #[.slice A l.length ca, .int .i64 n] w fun e w' => e = .returned (.bool true) ∧ Below w.heap.size w w' := by
  unfold maxLen at hl
  by_cases hl150 : 150 < l.length
  · clear hO
    go_enter Try.func7, Try.ntmps7
    go_wp2
    go_ret
    exact ⟨rfl, Below.refl _ _⟩
  · have hle : l.length ≤ 150 := by omega
    have HO := Lib.hid hO
    have HST := Lib.hid (st_start w)
    have HAL := Lib.hid (fun W rt bt m (h : St w rt bt m (list m) W) p => st_alike h p n hlo hhi)
    clear hO hl150
    go_enter Try.func7, Try.ntmps7
    go_wp2
    go_loopw [5, 27] (fun st si wr => ∃ (k bt : Nat) (m : M), si = .int .i64 (k : Int) ∧ k ≤ l.length ∧ st = .pointer (some ⟨bt, 0, none⟩) ∧ St w (w.heap.size + 1) bt m (list m) wr) (fun _ si _ => l.length - (intOf si).toNat)
    case atStart => exact ⟨0, w.heap.size, fun _ => none, rfl, Nat.zero_le _, rfl, HST.out⟩
    case round =>
      obtain ⟨k, bt, m, rfl, hk, rfl, hS⟩ := hrel
      clear HST
      generalize w.heap.size + 1 = rt at *
      by_cases hlt : k < l.length
      · have hsz := hS.size
        have hOr := HO.out.below hS.wBelow
        obtain ⟨o, ho⟩ : ∃ o, l[k]? = some o := ⟨_, List.getElem?_eq_getElem hlt⟩
        obtain ⟨b, off, rfl, hbl, c0, c1, c2, c3, c4, c5, c6⟩ := hOr k o ho
        have hlt' : (k : Int) < (l.length : Int) := by omega
        obtain ⟨ok, op, f, e1, e2, e3, e4⟩ := o
        simp only at c0 c1 c2 c3 c4 c5 c6
        clear hOr ho
        have hS0 := hS.below ((Below.refl _ _).alloc (Nat.le_refl _) (.cells #[.int .i64 ok, .int .i64 op, .int .i64 f, .bool e1, .bool e2, .bool e3, .bool e4] 54))
        have hX0 := Blk.new wr 54 #[.int .i64 ok, .int .i64 op, .int .i64 f, .bool e1, .bool e2, .bool e3, .bool e4]
        have HS0 := Lib.hid hS0
        have HX0 := Lib.hid hX0
        clear hS hS0 hX0
        generalize hxb : wr.heap.size = xb at *
        by_cases k0 : ok = 0
        case' pos =>
          subst k0
          obtain ⟨r, hr⟩ : ∃ r : Int, (if may op ⟨f, e1, e2, e3, e4⟩ then 0 else 50) = r := ⟨_, rfl⟩
          have hset := fun W m l (h : St w rt bt m l W) => st_set h ⟨f, e1, e2, e3, e4⟩ op
          have hrset := fun W m m0 (h : St w rt bt m (list m0) W) => st_rset h ⟨f, e1, e2, e3, e4⟩ op
          simp only [E.val, E.arr, hr] at hset hrset
          have HSET := Lib.hid hset
          have HRSET := Lib.hid hrset
          clear hset hrset hr
          go_wp2_with fail
          refine (HSET.out _ _ _ HS0.out).mono ?_
          rintro e w1 ⟨rfl, hS1, hk1⟩
          have HX1 := Lib.hid (hk1.2 _ _ _ (by decide) (by decide) (by decide) HX0.out)
          obtain ⟨x0, x1, x2, x3, x4, x5, x6, xlt⟩ := ocells HX1.out
          have HS1 := Lib.hid hS1
          clear hS1 hk1
          go_wp2_with fail
          refine (HRSET.out _ _ _ HS1.out).mono ?_
          rintro e w2 ⟨rfl, hS2, hk2⟩
          have hX2 := hk2.2 _ _ _ (by decide) (by decide) (by decide) HX1.out
          generalize setM m op ⟨f, e1, e2, e3, e4⟩ = mf at *
          have hXf := hX2
          have hSf := hS2
          clear x0 x1 x2 x3 x4 x5 x6 xlt hk2 hX2 hS2 HS1 HX1 HSET HRSET HS0 HX0
        case' neg =>
          have n0 : (ok == 0) = false := beq_eq_false_iff_ne.2 k0
          by_cases k1 : ok = 1
          case' pos =>
            subst k1
            have hset := fun W m l (h : St w rt bt m l W) => st_clear h op
            have hrset := fun W m m0 (h : St w rt bt m (list m0) W) => st_rclear h op
            have HSET := Lib.hid (fun W l (h : St w rt bt m l W) => hset W m l h)
            have HRSET := Lib.hid (fun W m1 (h : St w rt bt m1 (list m) W) => hrset W m1 m h)
            obtain ⟨y, b', hyb⟩ : ∃ (y : E) (b : Bool), gotV (look m op) = .tuple #[y.val, .bool b] := ⟨_, _, rfl⟩
            rw [hyb] at HSET HRSET
            obtain ⟨yf, y1, y2, y3, y4⟩ := y
            have HEQ := fun W => eqEntry ⟨yf, y1, y2, y3, y4⟩ ⟨yf, y1, y2, y3, y4⟩ 9998 W
            simp only [E.val, E.arr, decide_true] at HSET HRSET HEQ
            clear hset hrset hyb k0
            go_wp2_with fail
            refine (HSET.out _ _ HS0.out).mono ?_
            rintro e w1 ⟨rfl, hS1, hk1⟩
            have HX1 := Lib.hid ((hk1.2 _ _ _ (by decide) (by decide) (by decide) HX0.out).alloc (.cells #[.int .i64 yf, .bool y1, .bool y2, .bool y3, .bool y4] 29))
            obtain ⟨x0, x1, x2, x3, x4, x5, x6, xlt⟩ := ocells HX1.out
            have HS1 := Lib.hid (hS1.below ((Below.refl _ _).alloc (Nat.le_refl _) (.cells #[.int .i64 yf, .bool y1, .bool y2, .bool y3, .bool y4] 29)))
            have HA1 := Lib.hid (Blk.new w1 29 #[.int .i64 yf, .bool y1, .bool y2, .bool y3, .bool y4])
            clear hS1 hk1
            go_wp2_with fail
            refine (HRSET.out _ _ HS1.out).mono ?_
            rintro e w2 ⟨rfl, hS2, hk2⟩
            have hX2 := (hk2.2 _ _ _ (by decide) (by decide) (by decide) HX1.out).alloc (.cells #[.int .i64 yf, .bool y1, .bool y2, .bool y3, .bool y4] 29)
            obtain ⟨a0, a1, a2, a3, a4, alt⟩ := ecells (hk2.2 _ _ _ (by decide) (by decide) (by decide) HA1.out)
            have hS3 := hS2.below ((Below.refl _ _).alloc (Nat.le_refl _) (.cells #[.int .i64 yf, .bool y1, .bool y2, .bool y3, .bool y4] 29))
            generalize clearM m op = mf at *
            have hXf := hX2
            have hSf := hS3
            clear x0 x1 x2 x3 x4 x5 x6 xlt hk2 hX2 hS2 hS3 HS1 HX1 HSET HRSET HS0 HX0 HA1
          case' neg =>
            have n1 : (ok == 1) = false := beq_eq_false_iff_ne.2 k1
            by_cases k2 : ok = 2
            case' pos =>
              subst k2
              have HSET := Lib.hid (fun W l (h : St w rt bt m l W) => st_clean h)
              have HRSET := Lib.hid (fun W m1 (h : St w rt bt m1 (list m) W) => st_rclean h)
              generalize (filt E.d (list m)).length = r at *
              clear k0 k1
              go_wp2_with fail
              refine (HSET.out _ _ HS0.out).mono ?_
              rintro e w1 ⟨rfl, hS1, hk1⟩
              have HX1 := Lib.hid (hk1.2 _ _ _ (by decide) (by decide) (by decide) HX0.out)
              have HS1 := Lib.hid hS1
              clear hS1 hk1
              go_wp2_with fail
              refine (HRSET.out _ _ HS1.out).mono ?_
              rintro e w2 ⟨rfl, hS2, hk2⟩
              have hX2 := hk2.2 _ _ _ (by decide) (by decide) (by decide) HX1.out
              generalize cl m = mf at *
              have hXf := hX2
              have hSf := hS2
              clear hk2 hX2 hS2 HS1 HX1 HSET HRSET HS0 HX0
            case' neg =>
              have n2 : (ok == 2) = false := beq_eq_false_iff_ne.2 k2
              by_cases k3 : ok = 3
              case' pos =>
                subst k3
                have hset := fun W bn mo (h : St2 w rt bn bt m mo (list m) W) => st2_set h ⟨0, false, false, false, true⟩ 1
                simp only [E.val, E.arr] at hset
                have HSET := Lib.hid hset
                have HXB := Lib.hid HX0.out
                clear hset k0 k1 k2
                go_wp2_with fail
                refine (st_copy HS0.out).mono ?_
                rintro e w1 ⟨rfl, hS1, hk1⟩
                have HX1 := Lib.hid (hk1.2 _ _ _ (by decide) (by decide) (by decide) HX0.out)
                simp only [World.size_alloc, hxb] at hS1 ⊢
                have HS1 := Lib.hid hS1
                clear hS1 hk1
                go_wp2_with fail
                refine (HSET.out _ _ _ HS1.out).mono ?_
                rintro e w2 ⟨rfl, hS2, hk2⟩
                have HX2 := Lib.hid (hk2.2 _ _ _ (by decide) (by decide) (by decide) HX1.out)
                have HS2 := Lib.hid hS2
                clear hS2 hk2
                go_wp2_with fail
                refine (st2_clear HS2.out 2).mono ?_
                rintro e w3 ⟨rfl, hS3, hk3⟩
                have HX3 := Lib.hid (hk3.2 _ _ _ (by decide) (by decide) (by decide) HX2.out)
                have HS3 := Lib.hid hS3
                clear hS3 hk3
                go_wp2_with fail
                refine (st2_clean HS3.out).mono ?_
                rintro e w4 ⟨rfl, hS4, hk4⟩
                have hXf := hk4.2 _ _ _ (by decide) (by decide) (by decide) HX3.out
                have hSf := hS4.st
                generalize m = mf at *
                clear hS4 hk4 HX3 HX2 HX1 HS3 HS2 HS1 HS0 HX0 HXB HSET
              case' neg =>
                have n3 : (ok == 3) = false := beq_eq_false_iff_ne.2 k3
                have hXf := HX0.out
                have hSf := HS0.out
                generalize m = mf at *
                clear k0 k1 k2 k3 HS0 HX0
        all_goals
          obtain ⟨x0, x1, x2, x3, x4, x5, x6, xlt⟩ := ocells hXf
          have HXf := Lib.hid hXf
          have HSf := Lib.hid hSf
          clear hXf hSf
          have hck := fun W => check_any ⟨f, e1, e2, e3, e4⟩ W
          have hmay := fun W => refMay_any ⟨f, e1, e2, e3, e4⟩ W
          unfold code at hck
          simp only [E.val, E.arr] at hck hmay
          cases hok : (⟨f, e1, e2, e3, e4⟩ : E).ok
          all_goals
            simp only [hok, if_true, if_false, Bool.false_eq_true] at hck hmay
            have HCK := Lib.hid hck
            have HMAY := Lib.hid hmay
            clear hck hmay hok
            go_wp2_with fail
            refine (HCK.out _).mono ?_
            rintro e w5 ⟨rfl, hb5⟩
            have HX5 := Lib.hid (HXf.out.below hb5 HXf.out.lt)
            have HS5 := Lib.hid (HSf.out.below hb5)
            clear hb5 x0 x1 x2 x3 x4 x5 x6 xlt HXf HSf HCK
            obtain ⟨x0, x1, x2, x3, x4, x5, x6, xlt⟩ := ocells HX5.out
            go_wp2_with fail
            refine (HMAY.out _).mono ?_
            rintro e w6 ⟨rfl, hb6⟩
            have HX6 := Lib.hid (HX5.out.below hb6 HX5.out.lt)
            have HS6 := Lib.hid (HS5.out.below hb6)
            clear hb6 x0 x1 x2 x3 x4 x5 x6 xlt HX5 HS5 HMAY
            obtain ⟨x0, x1, x2, x3, x4, x5, x6, xlt⟩ := ocells HX6.out
            go_wp2_with fail
            refine (HAL.out _ _ _ _ HS6.out op).mono ?_
            rintro e w7 ⟨rfl, hS7, hk7⟩
            have HS7 := Lib.hid hS7
            clear hS7 hk7 x0 x1 x2 x3 x4 x5 x6 xlt HX6 HS6
            go_wp2
            go_roundw
            case rel => exact ⟨k + 1, _, mf, by go_num, by omega, rfl, HS7.out⟩
            case measure => simp [intOf]; omega
      · have hkk : k = l.length := by omega
        subst hkk
        go_wp2
        go_ret
        exact ⟨rfl, hS.wBelow⟩

theorem own : ownKnob Try.prog.godebug = none := by kernel_rfl
theorem laidOut : laidOutB Try.prog = true := by kernel_rfl

set_option maxRecDepth 100000 in
theorem lifted (os : Os) (started : os.Started) (H : Type) (enc : TypeId × Value → H) :
    ReturnsInHanded {} Try.checked os 7 .any (Rows.pagesPlaysSpec.pre6 enc Try.prog Try.f7 Rows.pagesPlaysRow.domain false) (Rows.pagesPlaysSpec.post enc Try.prog Try.f7 false true false false) := by
  refine returnsInHanded_of_change (C := Try.checked) own started (by kernel_rfl) Try.func7
    (ChangeSpec.witness6 (enc := enc) (C := Try.checked) false ⟨#[], #[.slice none 0 0, .int .i64 0], []⟩ 8 (by kernel_rfl) (by kernel_rfl) (by kernel_rfl) (by kernel_rfl)) ?_
  intro W base args ds gs before hval0 hW hcnd _
  have hval : ∀ (j : Nat) t v, Try.f7.params[j]? = some t → args[j]? = some v → Value.okWide Try.prog W .any base t v := hval0
  have hW' := hW
  obtain ⟨p, q, hA0, hV, rfl, hfz, hnd⟩ := hW
  have hA : DataW.TrodAll enc Try.prog W 0 (fun _ => true) true Try.f7.params.toList args.toList ds p := hA0
  rw [Try.params7] at hA hval
  obtain ⟨v0, v1, d0, d1, p0, p1, rfl, rfl, rfl, h0, h1⟩ := trodAll_two hA
  obtain ⟨A, c, l, rfl, hO, hl⟩ := open_ops (hval 0 22 v0 rfl rfl) h0
  obtain ⟨n, rfl, e1, e2, wn⟩ := open_int Try.underlying3 (hval 1 3 v1 rfl rfl) h1
  have hn : -9223372036854775808 ≤ n ∧ n ≤ 9223372036854775807 := by simpa [Lit.wf, IntKind.min, IntKind.max, IntKind.signed, IntKind.bits] using wn
  refine (walk A c l hO hl n hn.1 hn.2).mono fun e W' ⟨he, hb⟩ => ?_
  subst he
  exact ⟨_, rfl, law_post (tb := 4) laidOut (by kernel_rfl) rfl rfl Try.underlying4 hW' (fun _ => rfl) hb⟩

theorem holds : Rows.PagesPlaysSaid :=
  OpenClaim.holds_of_wide 7 Try.f7 rfl rfl rfl rfl rfl rfl rfl ⟨rfl, rfl, rfl, rfl, rfl⟩ rfl rfl rfl rfl rfl (by kernel_rfl) Try.func7 (by kernel_rfl)
    (of_decide_eq_true (by kernel_rfl)) (by unfold Func.isWrapper; first | (rw [if_pos (by decide +kernel)]; kernel_rfl) | (rw [if_neg (by decide +kernel)]; exact ⟨rfl, rfl⟩))
    (fun os started H enc _ => lifted os started H enc)
end Go.Proofs.Ytgdimjcpdndklaa.lawPagesPlays
