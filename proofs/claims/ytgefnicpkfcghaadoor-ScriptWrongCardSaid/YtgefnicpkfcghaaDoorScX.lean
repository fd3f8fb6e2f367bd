/-
  The law ScriptWrong, walked. Condition: the tables lie as the program's text, and the library's, lay them.
-/
import Derived.Test.YtgefnicpkfcghaaDoorScW
namespace Go.Proofs.YtgefnicpkfcghaaDoor
open Go.RowKit
set_option linter.unusedVariables false
set_option linter.unusedSimpArgs false

theorem text_cases (xs : List O) : (Fine xs ∧ textL xs = some (linesL xs)) ∨ (¬ Fine xs ∧ textL xs = none) := by
  by_cases h : Fine xs
  · exact .inl ⟨h, text_yes h⟩
  · exact .inr ⟨h, text_no h⟩

set_option maxRecDepth 100000 in
set_option maxHeartbeats 16000000 in
theorem wrongLaw_any {w : World} (hG : Ground w) (A : Option Addr) (ca : Nat) (xs : List O) (a : Nat) (s : ByteArray) (hx : OpsAt w A xs) (hxl : xs.length ≤ maxLen) (hcap : xs.length ≤ ca) (hcm : ca ≤ maxLen) (hv : Vals xs) (hsl : s.size ≤ maxLen) (ha : a < 256) :
    Calls Tryd.prog 5 #[.slice A xs.length ca, .int .u8 (a : Int), .string s] w fun e w' => e = .returned (.bool true) ∧ Below w.heap.size w w' := by
  unfold maxLen at hxl hsl hcm
  have HAL := Lib.hid (alive_any hG)
  by_cases hbig : xs.length = 0 ∨ 200 < xs.length ∨ 300 < s.size
  · clear hx hv hG
    have hc : (xs.length : Int) = 0 ∨ (¬ (xs.length : Int) = 0 ∧ (200 : Int) < (xs.length : Int)) ∨ (¬ (xs.length : Int) = 0 ∧ ¬ (200 : Int) < (xs.length : Int) ∧ (300 : Int) < (s.size : Int)) := by omega
    clear hbig
    rcases hc with h1 | ⟨h1, h2⟩ | ⟨h1, h2, h3⟩
    · have b1 : ((xs.length : Int) == 0) = true := by simp [h1]
      clear h1
      go_enter Tryd.func5, Tryd.ntmps5
      go_wp2_with fail
      refine HAL.out.mono ?_
      rintro e w1 ⟨rfl, hb1⟩
      have HB1 := Lib.hid hb1
      clear hb1
      go_wp2
      go_ret
      exact ⟨rfl, HB1.out⟩
    · have b1 : ((xs.length : Int) == 0) = false := beq_eq_false_iff_ne.2 h1
      go_enter Tryd.func5, Tryd.ntmps5
      go_wp2_with fail
      refine HAL.out.mono ?_
      rintro e w1 ⟨rfl, hb1⟩
      have HB1 := Lib.hid hb1
      clear hb1
      go_wp2
      go_ret
      exact ⟨rfl, HB1.out⟩
    · have b1 : ((xs.length : Int) == 0) = false := beq_eq_false_iff_ne.2 h1
      go_enter Tryd.func5, Tryd.ntmps5
      go_wp2_with fail
      refine HAL.out.mono ?_
      rintro e w1 ⟨rfl, hb1⟩
      have HB1 := Lib.hid hb1
      clear hb1
      go_wp2
      go_ret
      exact ⟨rfl, HB1.out⟩
  have h0 : ¬ (xs.length : Int) = 0 := by omega
  have b0 : ((xs.length : Int) == 0) = false := beq_eq_false_iff_ne.2 h0
  have h1 : ¬ (200 : Int) < (xs.length : Int) := by omega
  have h2 : ¬ (300 : Int) < (s.size : Int) := by omega
  have hs3 : s.size ≤ 300 := by omega
  have hx2 : xs.length ≤ 200 := by omega
  have hx0 : 0 < xs.length := by omega
  clear hbig
  obtain ⟨cb, hcb⟩ : ∃ cb, cb = decide (0 ≤ Lib.indexByte s.data.toList 10) := ⟨_, rfl⟩
  have HCT := Lib.hid (fun W => show Calls Tryd.prog 21 #[.string s, .string ⟨#[10]⟩] W fun e w' => e = .returned (.bool cb) ∧ w' = W from by rw [hcb]; exact Tryd.strings_Contains_one s 10 W)
  have HX := Lib.hid hx
  have HG := Lib.hid hG
  have HV := Lib.hid hv
  have HCB := Lib.hid hcb
  clear hx hG hv hcb
  cases cb with
  | true =>
    go_enter Tryd.func5, Tryd.ntmps5
    go_wp2_with fail
    refine HAL.out.mono ?_
    rintro e W1 ⟨rfl, hb1⟩
    have HB1 := Lib.hid hb1
    clear hb1 HAL
    go_wp2_with fail
    refine (HCT.out _).mono ?_
    rintro e w2 ⟨rfl, rfl⟩
    go_wp2
    go_ret
    exact ⟨rfl, HB1.out⟩
  | false =>
  have hnl : ∀ c ∈ toL s, c ≠ 10 := no_end (by have := HCB.out; intro h; rw [decide_eq_true h] at this; cases this)
  obtain ⟨k, hk⟩ : ∃ k, k = a % xs.length := ⟨_, rfl⟩
  have hkl : k < xs.length := by rw [hk]; exact Nat.mod_lt _ hx0
  have hmod : (a : Int).tmod (xs.length : Int) = (k : Int) := by rw [hk]; exact (Int.ofNat_tmod a xs.length).symm
  obtain ⟨b, off, hAe, _⟩ := op_at HX.out (List.getElem?_eq_getElem hx0)
  subst hAe
  have HNL := Lib.hid hnl
  clear hnl hk
  go_enter Tryd.func5, Tryd.ntmps5
  go_wp2_with fail
  refine HAL.out.mono ?_
  rintro e W1 ⟨rfl, hb1⟩
  have HB1 := Lib.hid hb1
  clear hb1 HAL
  go_wp2_with fail
  refine (HCT.out _).mono ?_
  rintro e w2 ⟨rfl, rfl⟩
  go_wp2_with fail
  -- the two parts' texts
  obtain ⟨sh, hsh⟩ : ∃ sh : ByteArray, sh = ⟨((textL (xs.take k)).getD []).toArray⟩ := ⟨_, rfl⟩
  obtain ⟨eh, heh⟩ : ∃ eh, eh = errO (textL (xs.take k)) := ⟨_, rfl⟩
  obtain ⟨st, hst⟩ : ∃ st : ByteArray, st = ⟨((textL (xs.drop (k + 1))).getD []).toArray⟩ := ⟨_, rfl⟩
  obtain ⟨et, het⟩ : ∃ et, et = errO (textL (xs.drop (k + 1))) := ⟨_, rfl⟩
  have htk : (xs.take k).length = k := by rw [List.length_take]; omega
  have hdk : (xs.drop (k + 1)).length = xs.length - (k + 1) := List.length_drop
  have HT1 := Lib.hid (fun W (hW : Below w.heap.size w W) => show Calls Tryd.prog 18 #[.slice (some ⟨b, off, none⟩) k ca] W fun e w' => e = .returned (.tuple #[.string sh, .int .i64 eh]) ∧ Below W.heap.size W w' from by
    have h := text_any (HG.out.below hW) (some ⟨b, off, none⟩) ca (xs.take k) (by omega) (ops_take (HX.out.below hW) k) (fun x hx => HV.out x (List.mem_of_mem_take hx))
    rw [htk] at h
    rw [hsh, heh]
    exact h)
  have HT2 := Lib.hid (fun W (hW : Below w.heap.size w W) (o2 c2 : Nat) (ho : o2 = off + (k + 1) * 7 ∨ xs.length - (k + 1) = 0) => show Calls Tryd.prog 18 #[.slice (some ⟨b, o2, none⟩) (xs.length - (k + 1)) c2] W fun e w' => e = .returned (.tuple #[.string st, .int .i64 et]) ∧ Below W.heap.size W w' from by
    have hO : OpsAt W (some ⟨b, o2, none⟩) (xs.drop (k + 1)) := by
      rcases ho with rfl | ho
      · exact ops_drop (HX.out.below hW) (k + 1)
      · rw [List.drop_eq_nil_of_le (by omega)]
        exact RowsAt.nil _ _ _
    have h := text_any (HG.out.below hW) (some ⟨b, o2, none⟩) c2 (xs.drop (k + 1)) (by omega) hO (fun x hx => HV.out x (List.mem_of_mem_drop hx))
    rw [hdk] at h
    rw [hst, het]
    exact h)
  have HSH := Lib.hid hsh
  have HEH := Lib.hid heh
  have HST := Lib.hid hst
  have HET := Lib.hid het
  have HTK := Lib.hid htk
  have HDK := Lib.hid hdk
  clear hsh heh hst het htk hdk
  refine (HT1.out _ HB1.out).mono ?_
  rintro e W3 ⟨rfl, hb3⟩
  have HB3 := Lib.hid (bl_step HB1.out HB1.out.size hb3)
  clear hb3
  have hkk := Lib.hid (show k < xs.length ∧ xs.length ≤ ca from ⟨hkl, hcap⟩)
  -- what Read and Parse tell
  obtain ⟨rd, hrd⟩ : ∃ rd, rd = readO (toL s) := ⟨_, rfl⟩
  obtain ⟨k_, co, nn, p, sg, mk, nm, hsa⟩ : ∃ (k_ co nn p sg mk : Int) (nm : ByteArray), opA rd = #[.int .i64 k_, .int .i64 co, .int .i64 nn, .int .i64 p, .int .i64 sg, .int .u32 mk, .string nm] := by
    cases rd with
    | none => exact ⟨0, 0, 0, 0, 0, 0, _, rfl⟩
    | some y => exact ⟨y.k, y.co, y.n, y.p, y.s, y.m, y.w, rfl⟩
  obtain ⟨er, her⟩ : ∃ er, er = errO rd := ⟨_, rfl⟩
  have HR := Lib.hid (fun W (hW : Below w.heap.size w W) => show Calls Tryd.prog 12 #[.string s] W fun e w' => e = .returned (.tuple #[.agg #[.int .i64 k_, .int .i64 co, .int .i64 nn, .int .i64 p, .int .i64 sg, .int .u32 mk, .string nm], .int .i64 er]) ∧ Below W.heap.size W w' from by
    have h := read_any (HG.out.below hW) s (by omega)
    rw [show s.data.toList = toL s from rfl, ← hrd, hsa, ← her] at h
    exact h)
  have HRD := Lib.hid hrd
  have HSA := Lib.hid hsa
  have HER := Lib.hid her
  clear hrd hsa her
  go_wp2_with fail
  all_goals
    refine (HT2.out _ HB3.out _ _ ?_).mono ?_
    first | exact .inl rfl | exact .inr (by have := hkk.out.2; omega)
    rintro e W4 ⟨rfl, hb4⟩
    have HB4 := Lib.hid (bl_step HB3.out HB3.out.size hb4)
    clear hb4
    rcases text_cases (xs.take k) with ⟨hf1, ht1⟩ | ⟨hf1, ht1⟩
    case' inr =>
      have he1 : eh = 200 := by rw [HEH.out, ht1]; rfl
      subst he1
      clear hf1 ht1
      go_wp2
      go_ret
      exact ⟨rfl, HB4.out⟩
    rcases text_cases (xs.drop (k + 1)) with ⟨hf2, ht2⟩ | ⟨hf2, ht2⟩
    case' inr =>
      have he1 : eh = 0 := by rw [HEH.out, ht1]; rfl
      have he2 : et = 200 := by rw [HET.out, ht2]; rfl
      subst he1 he2
      clear hf1 ht1 hf2 ht2
      go_wp2
      go_ret
      exact ⟨rfl, HB4.out⟩
    have he1 : eh = 0 := by rw [HEH.out, ht1]; rfl
    have he2 : et = 0 := by rw [HET.out, ht2]; rfl
    have hq1 : toL sh = linesL (xs.take k) := by rw [HSH.out, ht1]; rfl
    have hq2 : toL st = linesL (xs.drop (k + 1)) := by rw [HST.out, ht2]; rfl
    have HF1 := Lib.hid hf1.2
    have HF2 := Lib.hid hf2.2
    have HQ1 := Lib.hid hq1
    have HQ2 := Lib.hid hq2
    have zh : sh.size ≤ 201000 := by
      have e1 : sh.size = (toL sh).length := by unfold toL; rw [Array.length_toList]; rfl
      have e2 := lines_len (xs.take k) hf1.2 (fun x hx => HV.out x (List.mem_of_mem_take hx))
      have e3 := HTK.out
      rw [hq1] at e1
      omega
    have zt : st.size ≤ 201000 := by
      have e1 : st.size = (toL st).length := by unfold toL; rw [Array.length_toList]; rfl
      have e2 := lines_len (xs.drop (k + 1)) hf2.2 (fun x hx => HV.out x (List.mem_of_mem_drop hx))
      have e3 := HDK.out
      rw [hq2] at e1
      omega
    have hz1 : (sh ++ s : ByteArray).size = sh.size + s.size := ByteArray.size_append
    have hz2 : (sh ++ s ++ ⟨#[10]⟩ : ByteArray).size = sh.size + s.size + 1 := by rw [ByteArray.size_append, hz1]; rfl
    have hz3 : (sh ++ s ++ ⟨#[10]⟩ ++ st : ByteArray).size = sh.size + s.size + 1 + st.size := by rw [ByteArray.size_append, hz2]
    have HZ3 := Lib.hid hz3
    have HTT := Lib.hid (show toL (sh ++ s ++ ⟨#[10]⟩ ++ st) = wrongT xs k (toL s) from by
      have e : toL (sh ++ s ++ ⟨#[10]⟩ ++ st) = toL sh ++ toL s ++ [10] ++ toL st := by
        unfold toL
        rw [ByteArray.data_append, ByteArray.data_append, ByteArray.data_append]
        simp
      rw [e, hq1, hq2]
      rfl)
    subst he1 he2
    clear hf1 ht1 hf2 ht2 hq1 hq2 hz3
    go_wp2_with fail
    refine (HR.out _ HB4.out).mono ?_
    rintro e W5 ⟨rfl, hb5⟩
    have HB5 := Lib.hid (bl_step HB4.out HB4.out.size hb5)
    clear hb5
    go_wp2_with fail
  all_goals
    have hxb := Blk.new W5 24 #[.int .i64 k_, .int .i64 co, .int .i64 nn, .int .i64 p, .int .i64 sg, .int .u32 mk, .string nm]
    have hB6 := bl_new HB5.out (.cells #[.int .i64 k_, .int .i64 co, .int .i64 nn, .int .i64 p, .int .i64 sg, .int .u32 mk, .string nm] 24)
    have hTz : (sh ++ s ++ ⟨#[10]⟩ ++ st : ByteArray).size ≤ 1000000 := by rw [HZ3.out]; omega
    refine (parse_any (HG.out.below hB6) _ hTz).mono ?_
    rintro e W6 hout
    rw [HTT.out] at hout
    have hkl' := hkk.out.1
    clear hz1 hz2 hTz
    cases rd with
    | none =>
      have he : er = 200 := by rw [HER.out]; rfl
      obtain ⟨hn1, hn2⟩ := wrong_no hkl' (by omega) HF1.out HF2.out HV.out HNL.out HRD.out.symm
      rcases hout with ⟨v, acc, rfl, ho, hm, hl, hb⟩ | ⟨j, rfl, hj, hacc, hbad, hb⟩
      · exact absurd hm (hn1 acc)
      · have hjk := hn2 j hacc hbad
        subst hjk he
        have HB6 := Lib.hid (bl_step hB6 hB6.size hb)
        clear hn1 hn2 hacc hbad hb hB6 hxb
        go_wp2
        go_ret
        exact ⟨by first | rfl | simp, HB6.out⟩
    | some x =>
      have he : er = 0 := by rw [HER.out]; rfl
      have hxe : x = ⟨k_, co, nn, p, sg, mk, nm⟩ := by
        have h := HSA.out
        obtain ⟨y0, y1, y2, y3, y4, y5, y6⟩ := x
        simp only [opA, O.cells, Array.mk.injEq, List.cons.injEq, Value.int.injEq, Value.string.injEq, and_true, true_and] at h
        obtain ⟨rfl, rfl, rfl, rfl, rfl, rfl, rfl⟩ := h
        rfl
      obtain ⟨hy1, hy2⟩ := wrong_yes hkl' HF1.out HF2.out HV.out HNL.out HRD.out.symm
      rcases hout with ⟨v, acc, rfl, ho, hm, hl, hb⟩ | ⟨j, rfl, hj, hacc, ⟨l, hl1, hl2⟩, hb⟩
      · have hacc := some_inj (hm.symm.trans hy1)
        subst hacc he
        obtain ⟨E, ce, rfl, hE, _⟩ := ownO_at ho
        have HB6 := Lib.hid (bl_step hB6 hB6.size hb)
        have hxb6 := hxb.below hb hxb.lt
        have HE := Lib.hid hE
        have HXE := Lib.hid hxe
        clear hy1 hy2 hm hl ho hb hB6 hxb hE hxe
        have hsl6 : (xs.set k x).length = xs.length := List.length_set
        rw [hsl6]
        go_wp2_with (at_builtin; refine append_ops rfl _ _ rfl W6.heap.size (.slice (some ⟨W6.heap.size, 0, none⟩) 0 0) [] rfl (World.ownsRow_lit W6 #[] 0 (Nat.le_refl _) (by decide) rfl) (some ⟨b, off, none⟩) _ xs rfl ((HX.out.below HB6.out).alloc _) (by simp; omega) (by simp) ?_)
        intro v7 W7 ho7 hb7
        obtain ⟨D7, c7, hv7, hO7, _⟩ := ownO_at ho7
        have hB7 := (bl_new (Below.refl W6.heap.size W6) _).trans hb7
        have HB7 := Lib.hid (HB6.out.trans (hB7.mono HB6.out.size))
        have hxb7 := hxb6.below hB7 hxb6.lt
        have hE7 := HE.out.below hB7
        have hs6 := hxb6.lt
        rcases ho7.2 with ⟨_, hz⟩ | ⟨g, cap, cur, hv7', hgB, hgb, hnc, hcmx, hcs, htake⟩
        · omega
        rw [hv7] at hv7'
        injection hv7' with hD7 _ hcc
        subst hD7 hcc
        subst hv7
        have hgb : Blk W7 g 24 cur := hgb
        have hcur : k * 7 + 6 < cur.size := by
          have h1 := congrArg List.length htake
          rw [List.length_take, cells_len, Array.length_toList] at h1
          omega
        have hO9 := ops_set hgb hO7 k hkl' hcur x
        have hB9 := set7_low (g := g) (o := k * 7) HB7.out (by have := HB6.out.size; omega) x
        have hE9 : OpsAt (set7 W7 g (k * 7) x) E (xs.set k x) := by
          have hbl : Below W6.heap.size W7 (set7 W7 g (k * 7) x) := set7_low (Below.refl _ _) hgB x
          refine RowsAt.belowB hE7 hbl (fun h0 b' o' hEb => ?_)
          obtain ⟨b'', o'', hA'', hlt'', _⟩ := HE.out 0 _ (List.getElem?_eq_getElem h0)
          rw [hEb] at hA''
          injection hA'' with hA''
          injection hA'' with e1 _ _
          omega
        have hfr := fun j => hgb.frozen j
        obtain ⟨hgl, d0, d1, d2, d3, d4, d5, d6⟩ := op_here hO7 (List.getElem?_eq_getElem hkl')
        rw [Nat.zero_add] at d0 d1 d2 d3 d4 d5 d6
        obtain ⟨x0, x1, x2, x3, x4, x5, x6⟩ := ocells hxb7
        have HO9 := Lib.hid hO9
        have HB9 := Lib.hid hB9
        have HE9 := Lib.hid hE9
        clear hb7 hB7 hxb7 hE7 ho7 hO7 hgb hcs htake hO9 hB9 hE9 hxb6
        generalize xs[k] = xk at *
        have HSM := Lib.hid (show Calls Tryd.prog 20 #[.slice E xs.length ce, .slice (some ⟨g, 0, none⟩) xs.length c7] (set7 W7 g (k * 7) ⟨k_, co, nn, p, sg, mk, nm⟩) fun e w' => e = .returned (.bool true) ∧ Below w.heap.size w w' from by
          rw [← HXE.out]
          have h := same_any E (some ⟨g, 0, none⟩) ce c7 (xs.set k x) (xs.set k x) HE9.out HO9.out (by rw [List.length_set]; omega) (by rw [List.length_set]; omega)
          rw [List.length_set, decide_eq_true rfl] at h
          exact h.mono fun e w' h' => ⟨h'.1, bl_step HB9.out HB9.out.size h'.2⟩)
        go_wp2_with fail
        refine HSM.out.mono ?_
        rintro e W10 ⟨rfl, hb10⟩
        have HB10 := Lib.hid hb10
        clear hb10
        go_wp2
        go_ret
        exact ⟨by first | rfl | simp, HB10.out⟩
      · exfalso
        have hjl := (List.getElem?_eq_some_iff.1 hl1).1
        rcases hl2 with h | h
        · have h3 : ((lns (wrongT xs k (toL s))).map lineS)[j]? = some none := by rw [List.getElem?_map, hl1, ← h]; rfl
          rw [hy1, List.getElem?_map, List.getElem?_eq_getElem (by rw [List.length_set]; omega)] at h3
          cases h3
        · omega
end Go.Proofs.YtgefnicpkfcghaaDoor
