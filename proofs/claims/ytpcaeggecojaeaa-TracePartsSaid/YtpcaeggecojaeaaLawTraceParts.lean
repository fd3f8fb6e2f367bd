/-
  The law TraceParts answers true for every input. No condition.
-/
import Derived.Test.YtpcaeggecojaeaaTrace6
namespace Go.Proofs.Ytpcaeggecojaeaa.lawTraceParts
open Go.ChangeShapes Go.WideShapes Go.ChangeAt Go.RowKit Go.Deep
set_option linter.unusedVariables false
set_option linter.unusedSimpArgs false

set_option maxRecDepth 100000 in
set_option maxHeartbeats 4000000 in
theorem walk {w : World} (A B C : Option Addr) (ca cb cc : Nat) (xs ys : List S) (ps : List Int) (hA : SeenAt w A xs) (hBs : SeenAt w B ys) (hC : IntsAt w C ps) (hxl : xs.length ≤ maxLen) (hyl : ys.length ≤ maxLen) (hpl : ps.length ≤ maxLen) (call : Int) :
    Calls Try.prog 3 #[.slice A xs.length ca, .slice B ys.length cb, .slice C ps.length cc, .int .i64 call] w fun e w' => e = .returned (.bool true) ∧ Below w.heap.size w w' := by
  unfold maxLen at hxl hyl hpl
  have HA := Lib.hid hA
  have HB := Lib.hid hBs
  have HC := Lib.hid hC
  clear hA hBs hC
  by_cases h1 : 200 < xs.length
  · go_enter Try.func3, Try.ntmps3
    go_wp2
    go_ret
    exact ⟨rfl, Below.refl _ _⟩
  · by_cases h2 : 200 < ys.length
    · go_enter Try.func3, Try.ntmps3
      go_wp2
      go_ret
      exact ⟨rfl, Below.refl _ _⟩
    · by_cases h3 : 20 < ps.length
      · go_enter Try.func3, Try.ntmps3
        go_wp2
        go_ret
        exact ⟨rfl, Below.refl _ _⟩
      · have HXL := Lib.hid (show xs.length ≤ 1000000 by omega)
        have HYL := Lib.hid (show ys.length ≤ 1000000 by omega)
        have HPL := Lib.hid (show ps.length ≤ 1000000 by omega)
        have hl1 : ∀ p : S → Bool, (xs.filter p).length ≤ 1000000 := fun p => Nat.le_trans (List.length_filter_le _ _) (by omega)
        have HL1 := Lib.hid (show (selOf ps xs).length ≤ 1000000 from hl1 _)
        have HL2 := Lib.hid (show (without call xs).length ≤ 1000000 from hl1 _)
        have HL3 := Lib.hid (show (pidsOf xs).length ≤ 1000000 from Nat.le_trans (pids_len _) (by omega))
        clear hl1
        go_enter Try.func3, Try.ntmps3
        go_wp2_with fail
        refine (of_any A C ca cc xs ps HA.out HC.out HXL.out HPL.out).mono ?_
        rintro e w1 ⟨v, rfl, hv, hb1⟩
        obtain ⟨A1, c1, rfl, hv1, _⟩ := ownS_at hv
        have HV1 := Lib.hid hv1
        have HA1 := Lib.hid (HA.out.below hb1)
        have HC1 := Lib.hid (HC.out.below hb1)
        have s1 := hb1.size
        clear hv hv1
        go_wp2_with fail
        refine (without_any A ca xs HA1.out HXL.out call).mono ?_
        rintro e w2 ⟨v, rfl, hv, hb2⟩
        obtain ⟨A2, c2, rfl, hv2, _⟩ := ownS_at hv
        have HV2 := Lib.hid hv2
        have HA2 := Lib.hid (HA1.out.below hb2)
        have s2 := hb2.size
        clear hv hv2
        go_wp2_with fail
        refine (pids_any A ca xs HA2.out HXL.out).mono ?_
        rintro e w3 ⟨v, rfl, hv, hb3⟩
        obtain ⟨A3, c3, rfl, hv3, _⟩ := ownI_at hv
        have HV3 := Lib.hid hv3
        have s3 := hb3.size
        have HA3 := Lib.hid (HA2.out.below hb3)
        have HC3 := Lib.hid ((HC1.out.below hb2).below hb3)
        clear hv hv3
        go_wp2_with fail
        refine (refOf_any A C ca cc xs ps HA3.out HC3.out HXL.out HPL.out).mono ?_
        rintro e w4 ⟨v, rfl, hv, hb4⟩
        obtain ⟨A4, c4, rfl, hv4, _⟩ := ownS_at hv
        have HV4 := Lib.hid hv4
        have s4 := hb4.size
        have HA4 := Lib.hid (HA3.out.below hb4)
        have HV14 := Lib.hid (((HV1.out.below hb2).below hb3).below hb4)
        clear hv hv4
        go_wp2_with fail
        refine (refFirst_any A1 A4 c1 c4 _ _ HV14.out HV4.out HL1.out HL1.out).mono ?_
        rintro e w5 ⟨rfl, hb5⟩
        rw [first_self]
        have s5 := hb5.size
        have HA5 := Lib.hid (HA4.out.below hb5)
        go_wp2_with fail
        refine (refWithout_any A ca xs HA5.out HXL.out call).mono ?_
        rintro e w6 ⟨v, rfl, hv, hb6⟩
        obtain ⟨A6, c6, rfl, hv6, _⟩ := ownS_at hv
        have HV6 := Lib.hid hv6
        have s6 := hb6.size
        have HA6 := Lib.hid (HA5.out.below hb6)
        have HV26 := Lib.hid ((((HV2.out.below hb3).below hb4).below hb5).below hb6)
        clear hv hv6
        go_wp2_with fail
        refine (refFirst_any A2 A6 c2 c6 _ _ HV26.out HV6.out HL2.out HL2.out).mono ?_
        rintro e w7 ⟨rfl, hb7⟩
        rw [first_self]
        have s7 := hb7.size
        have HA7 := Lib.hid (HA6.out.below hb7)
        go_wp2_with fail
        refine (refPids_any A ca xs HA7.out HXL.out).mono ?_
        rintro e w8 ⟨v, rfl, hv, hb8⟩
        obtain ⟨A8, c8, rfl, hv8, _⟩ := ownI_at hv
        have HV8 := Lib.hid hv8
        have s8 := hb8.size
        have HA8 := Lib.hid (HA7.out.below hb8)
        have HV38 := Lib.hid (((((HV3.out.below hb4).below hb5).below hb6).below hb7).below hb8)
        clear hv hv8
        go_wp2_with fail
        refine (same_any A3 A8 c3 c8 _ _ HV38.out HV8.out HL3.out HL3.out).mono ?_
        rintro e w9 ⟨rfl, hb9⟩
        rw [show decide (pidsOf xs = pidsOf xs) = true from decide_eq_true rfl]
        have s9 := hb9.size
        have hall : Below w.heap.size w w9 := (((((((hb1.trans (hb2.mono (by omega))).trans (hb3.mono (by omega))).trans (hb4.mono (by omega))).trans (hb5.mono (by omega))).trans (hb6.mono (by omega))).trans (hb7.mono (by omega))).trans (hb8.mono (by omega))).trans (hb9.mono (by omega))
        have HA9 := Lib.hid (HA.out.below hall)
        have HB9 := Lib.hid (HB.out.below hall)
        go_wp2_with fail
        refine (first_any A B ca cb _ _ HA9.out HB9.out HXL.out HYL.out).mono ?_
        rintro e w10 ⟨rfl, hb10⟩
        have s10 := hb10.size
        have HA10 := Lib.hid (HA9.out.below hb10)
        have HB10 := Lib.hid (HB9.out.below hb10)
        go_wp2_with fail
        refine (refFirst_any A B ca cb _ _ HA10.out HB10.out HXL.out HYL.out).mono ?_
        rintro e w11 ⟨rfl, hb11⟩
        go_wp2_with fail
        go_ret
        exact ⟨rfl, (hall.trans (hb10.mono (by omega))).trans (hb11.mono (by omega))⟩

theorem cellsOf_int : Try.prog.cellsOf 3 = 1 := by kernel_rfl
theorem cellsOf_u32 : Try.prog.cellsOf 31 = 1 := by kernel_rfl
theorem cellsOf_seen : Try.prog.cellsOf 33 = 4 := by kernel_rfl
section
variable {H : Type} {enc : TypeId × Value → H} {w : World} {base : Nat} {spare : Nat → Bool} {held : Bool}
theorem trod_seen {fuel : Nat} {cs : List Value} {y : DataW H × List MemPlace} (h : DataW.trod enc Try.prog w base spare held fuel 33 cs = some y) : ∃ x : S, cs = x.cells := by
  obtain ⟨xs, n, rfl, hx, hlen, hxl, hf⟩ := DataW.trod_struct Try.underlying33 h
  rw [cellsOf_seen] at hlen
  match cs, hlen with
  | [c0, c1, c2, c3], _ =>
    match xs, hxl with
    | [y0, y1, y2, y3], _ =>
      have h0 := hf 0 _ rfl
      have h1 := hf 1 _ rfl
      have h2 := hf 2 _ rfl
      have h3 := hf 3 _ rfl
      simp only [cellsOf_int, cellsOf_u32, List.drop_zero, List.drop_succ_cons, List.take_succ_cons, List.take_zero, List.getElem?_cons_zero, List.getElem?_cons_succ] at h0 h1 h2 h3
      obtain ⟨a0, e0, _, _⟩ := DataW.trod_int Try.underlying3 h0
      obtain ⟨a1, e1, _, _⟩ := DataW.trod_int Try.underlying3 h1
      obtain ⟨a2, e2, _, _⟩ := DataW.trod_int Try.underlying3 h2
      obtain ⟨a3, e3, _, _⟩ := DataW.trod_int Try.underlying31 h3
      injection e0 with e0 _; injection e1 with e1 _; injection e2 with e2 _; injection e3 with e3 _
      exact ⟨⟨a0, a1, a2, a3⟩, by rw [e0, e1, e2, e3]; rfl⟩
theorem trod_i {fuel : Nat} {cs : List Value} {y : DataW H × List MemPlace} (h : DataW.trod enc Try.prog w base spare held fuel 3 cs = some y) : ∃ x : Int, cs = iCells x := by
  obtain ⟨a, e, _, _⟩ := DataW.trod_int Try.underlying3 h
  exact ⟨a, e⟩
end

theorem own : ownKnob Try.prog.godebug = none := by kernel_rfl
theorem laidOut : laidOutB Try.prog = true := by kernel_rfl
theorem trodAll_four {H : Type} {enc : TypeId × Value → H} {P : Program} {w : World} {base : Nat} {spare : Nat → Bool} {held : Bool} {t t' t'' t3 : TypeId} {args : Array Value} {ds : List (DataW H)} {ps : List MemPlace} (h : DataW.TrodAll enc P w base spare held [t, t', t'', t3] args.toList ds ps) :
    ∃ v v' v'' v3 d d' d'' d3 p p' p'' p3, args = #[v, v', v'', v3] ∧ ds = [d, d', d'', d3] ∧ ps = p ++ (p' ++ (p'' ++ p3)) ∧ DataW.Trod enc P w base spare held t v d p ∧ DataW.Trod enc P w base spare held t' v' d' p' ∧ DataW.Trod enc P w base spare held t'' v'' d'' p'' ∧ DataW.Trod enc P w base spare held t3 v3 d3 p3 := by
  obtain ⟨v, vs, d, ds', p, q, hargs, rfl, rfl, hd, hrest⟩ := trodAll_cons h
  obtain ⟨v', vs', d', ds'', p', q', rfl, rfl, rfl, hd', hrest'⟩ := trodAll_cons hrest
  obtain ⟨v'', vs'', d'', ds''', p'', q'', rfl, rfl, rfl, hd'', hrest''⟩ := trodAll_cons hrest'
  obtain ⟨v3, vs3, d3, ds3, p3, q3, rfl, rfl, rfl, hd3, hrest3⟩ := trodAll_cons hrest''
  obtain ⟨rfl, rfl, rfl⟩ := trodAll_nil hrest3
  exact ⟨v, v', v'', v3, d, d', d'', d3, p, p', p'', p3, by cases args; simp_all, rfl, by simp, hd, hd', hd'', hd3⟩

set_option maxRecDepth 100000 in
theorem lifted (os : Os) (started : os.Started) (H : Type) (enc : TypeId × Value → H) :
    ReturnsInHanded {} Try.checked os 3 .any (Rows.tracePartsSpec.pre6 enc Try.prog Try.f3 Rows.tracePartsRow.domain false) (Rows.tracePartsSpec.post enc Try.prog Try.f3 false true false false) := by
  refine returnsInHanded_of_change (C := Try.checked) own started (by kernel_rfl) Try.func3
    (ChangeSpec.witness6 (enc := enc) (C := Try.checked) false ⟨#[], #[.slice none 0 0, .slice none 0 0, .slice none 0 0, .int .i64 0], []⟩ 8 (by kernel_rfl) (by kernel_rfl) (by kernel_rfl) (by kernel_rfl)) ?_
  intro W base args ds gs before hval0 hW hcnd _
  have hval : ∀ (j : Nat) t v, Try.f3.params[j]? = some t → args[j]? = some v → Value.okWide Try.prog W .any base t v := hval0
  have hW' := hW
  obtain ⟨p, q, hA0, hV, rfl, hfz, hnd⟩ := hW
  have hA : DataW.TrodAll enc Try.prog W 0 (fun _ => true) true Try.f3.params.toList args.toList ds p := hA0
  rw [Try.params3] at hA hval
  obtain ⟨v0, v1, v2, v3, d0, d1, d2, d3, p0, p1, p2, p3, rfl, rfl, rfl, h0, h1, h2, h3⟩ := trodAll_four hA
  obtain ⟨A, c, l, rfl, hO, hl⟩ := open_rows S.cells (by decide) (fun _ => rfl) Try.underlying22 cellsOf_seen trod_seen (hval 0 22 v0 rfl rfl) h0
  obtain ⟨B, c', l', rfl, hO', hl'⟩ := open_rows S.cells (by decide) (fun _ => rfl) Try.underlying22 cellsOf_seen trod_seen (hval 1 22 v1 rfl rfl) h1
  obtain ⟨C, c'', ps, rfl, hO'', hl''⟩ := open_rows iCells (by decide) (fun _ => rfl) Try.underlying23 cellsOf_int trod_i (hval 2 23 v2 rfl rfl) h2
  obtain ⟨n, rfl, e1, e2, wn⟩ := open_int Try.underlying3 (hval 3 3 v3 rfl rfl) h3
  refine (walk A B C c c' c'' l l' ps hO hO' hO'' hl hl' hl'' n).mono fun e W' ⟨he, hb⟩ => ?_
  subst he
  exact ⟨_, rfl, law_post (tb := 4) laidOut (by kernel_rfl) rfl rfl Try.underlying4 hW' (fun _ => rfl) hb⟩

theorem holds : Rows.TracePartsSaid :=
  OpenClaim.holds_of_wide 3 Try.f3 rfl rfl rfl rfl rfl rfl rfl ⟨rfl, rfl, rfl, rfl, rfl⟩ rfl rfl rfl rfl rfl (by kernel_rfl) Try.func3 (by kernel_rfl)
    (of_decide_eq_true (by kernel_rfl)) (by unfold Func.isWrapper; first | (rw [if_pos (by decide +kernel)]; kernel_rfl) | (rw [if_neg (by decide +kernel)]; exact ⟨rfl, rfl⟩))
    (fun os started H enc _ => lifted os started H enc)
end Go.Proofs.Ytpcaeggecojaeaa.lawTraceParts
