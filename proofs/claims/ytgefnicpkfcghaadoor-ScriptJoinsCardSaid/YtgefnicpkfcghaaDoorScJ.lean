/-
  The law ScriptJoins, walked. Condition: the tables lie as the program's text, and the library's, lay them.
-/
import Derived.Deep.RegionLaw
import Derived.Test.YtgefnicpkfcghaaDoorScA
import Derived.Test.YtgefnicpkfcghaaDoorScU
namespace Go.Proofs.YtgefnicpkfcghaaDoor
open Go.RowKit
set_option linter.unusedVariables false
set_option linter.unusedSimpArgs false

theorem lines_app (xs ys : List O) : linesL (xs ++ ys) = linesL xs ++ linesL ys := by unfold linesL; rw [List.flatMap_append]
theorem vals_app {xs ys : List O} (h : Vals xs) (k : Vals ys) : Vals (xs ++ ys) := fun x hx => (List.mem_append.1 hx).elim (h x) (k x)
/-- Texts of two, and of both: one behind the other, if there are any. -/
theorem joint (xs ys : List O) (hx : xs.length ≤ 200) (hy : ys.length ≤ 200) :
    (∃ s t, textL xs = some s ∧ textL ys = some t ∧ textL (xs ++ ys) = some (s ++ t)) ∨ (∃ s, textL xs = some s ∧ textL ys = none ∧ textL (xs ++ ys) = none) ∨ (∃ q, textL xs = none ∧ textL ys = q ∧ textL (xs ++ ys) = none) := by
  have hl : (xs ++ ys).length ≤ 10000 := by rw [List.length_append]; omega
  by_cases h1 : Fine xs
  · by_cases h2 : Fine ys
    · exact .inl ⟨_, _, text_yes h1, text_yes h2, by rw [text_yes ⟨hl, fun x hx => (List.mem_append.1 hx).elim (h1.2 x) (h2.2 x)⟩, lines_app]⟩
    · exact .inr (.inl ⟨_, text_yes h1, text_no h2, text_no fun h => h2 ⟨by omega, fun x hx => h.2 x (List.mem_append_right _ hx)⟩⟩)
  · exact .inr (.inr ⟨_, text_no h1, rfl, text_no fun h => h1 ⟨by omega, fun x hx => h.2 x (List.mem_append_left _ hx)⟩⟩)
theorem textD_len {xs : List O} (hv : Vals xs) : ((textL xs).getD []).length ≤ 10010000 := by
  by_cases h : Fine xs
  · rw [text_yes h]
    have h1 := lines_len xs h.2 hv
    have h2 := h.1
    show (linesL xs).length ≤ _
    omega
  · rw [text_no h]
    exact Nat.zero_le _

theorem parse_fine {w : World} (hG : Ground w) (xs : List O) (hf : Fine xs) (hv : Vals xs) (hl : xs.length ≤ 900) (s : ByteArray) (hs : toL s = linesL xs) :
    Calls Tryd.prog 19 #[.string s] w fun e w' => ∃ F cf, e = .returned (.tuple #[.slice F xs.length cf, .int .i64 0, .int .i64 0]) ∧ OpsAt w' F xs ∧ Below w.heap.size w w' := by
  have hsz : s.size ≤ 1000000 := by
    have e1 : s.size = (toL s).length := by unfold toL; rw [Array.length_toList]; rfl
    have e2 := lines_len xs hf.2 hv
    rw [hs] at e1
    omega
  refine (parse_any hG s hsz).mono fun e w' h => ?_
  rw [hs] at h
  have hbt := back_text hf.2 hv
  have hll := lns_lines xs hf.2
  rcases h with ⟨v, acc, rfl, ho, hm, hl, hb⟩ | ⟨j, rfl, hj, _, ⟨x, hx, hbad⟩, hb⟩
  · obtain ⟨F, cf, rfl, hF, _⟩ := ownO_at ho
    have := some_inj (hm.symm.trans hbt)
    subst this
    exact ⟨F, cf, rfl, hF, hb⟩
  · exfalso
    have hjl := (List.getElem?_eq_some_iff.1 hx).1
    rw [hll, List.length_map] at hjl
    rcases hbad with h | h
    · have h3 : ((lns (linesL xs)).map lineS)[j]? = some none := by rw [List.getElem?_map, hx, ← h]; rfl
      rw [hbt, List.getElem?_map, List.getElem?_eq_getElem hjl] at h3
      cases h3
    · omega

/-- append of a whole script at a step of a region that draws its order. -/
theorem step_append_ops {w : World} {ops : Array Oper} {o : Oper} {a : Act} {K : Act → World → Prop} {Q : Exit → Act → World → Prop} {E : Prop} (hgd : o.guard = none) (s x : Operand)
    (ho : o.op = .call { callee := .builtin .append, args := #[s, x], argTypes := #[37, 37] }) (base : Nat) (v : Value) (ls : List O) (hs : a.eval s = v) (hown : OwnO w base v ls)
    (A : Option Addr) (c : Nat) (xs : List O) (hx : a.eval x = .slice A xs.length c) (hA : OpsAt w A xs) (hlen : ls.length + xs.length ≤ 1000000) (hbase : base ≤ w.heap.size)
    (h : ∀ v' w', OwnO w' base v' (ls ++ xs) → Below base w w' → K (a.put o.dst v') w') : if Region.wanted o (yielded ops a.tmps) = true then Oper.wp Tryd.prog o a w K Q else E := by
  obtain ⟨i0, hi, hz0, hz1, hz2⟩ := info_parts infoO
  have hw : Region.wanted o (yielded ops a.tmps) = true := by simp [Region.wanted, hgd]
  rw [if_pos hw]
  by_cases hn : A = none
  · subst hn
    have hx0 : xs = [] := by
      cases xs with
      | nil => rfl
      | cons y ys =>
        obtain ⟨b, off, hA', _⟩ := hA 0 y.cells rfl
        cases hA'
    subst hx0
    have hrun := own_of_none (c := c) (ty := o.type) Tryd.underlying37 hi hown
    unfold Oper.wp
    simp only [List.length_nil] at hx
    simp [execOp, ho, resolve, invoke, builtin, hs, hx, hrun, Result.andThen]
    exact h _ _ (by rw [List.append_nil]; exact hown) (Below.refl _ _)
  · obtain ⟨ad, had⟩ := Option.ne_none_iff_exists'.1 hn
    subst had
    have hnews : ∀ (j : Nat) (u : Value), (xs.flatMap O.cells)[j]? = some u → w.cell? (ad.add j) = some u := by
      by_cases hx0 : xs = []
      · subst hx0
        intro j u hj
        simp at hj
      · obtain ⟨b, off, hA', hc⟩ := op_cell hA hx0
        injection hA' with hA'
        subst hA'
        exact hc
    have hl := cells_len xs
    obtain ⟨v', w', hrun, r1, r2, r3⟩ := run_append_own (P := Tryd.prog) w base 37 o.type 24 i0 _ 7 64 Tryd.underlying37 hi hz0 hz1 hz2 rfl (by decide) v ls.length _ hown ad xs.length c _ hl hnews (cells_one xs) (by unfold maxLen; omega) (by omega) hbase
    unfold Oper.wp
    simp [execOp, ho, resolve, invoke, builtin, hs, hx, hrun, Result.andThen]
    refine h v' w' ?_ (below_grown (Below.refl base w) r2 (own_block hown) hbase)
    unfold OwnO
    rw [List.length_append, List.flatMap_append]
    exact r1

set_option maxRecDepth 100000 in
set_option maxHeartbeats 16000000 in
theorem joinsLaw_any {w : World} (hG : Ground w) (A B C : Option Addr) (ca cb cc : Nat) (xs ys : List O) (bs : List UInt8) (hx : OpsAt w A xs) (hy : OpsAt w B ys) (hp : BytesAt w C bs) (hxl : xs.length ≤ maxLen) (hyl : ys.length ≤ maxLen) (hpl : bs.length ≤ maxLen) (hcap : bs.length ≤ cc) (hcm : cc ≤ maxLen) (hcn : C = none → cc = 0) (hvx : Vals xs) (hvy : Vals ys) :
    Calls Tryd.prog 9 #[.slice A xs.length ca, .slice B ys.length cb, .slice C bs.length cc] w fun e w' => e = .returned (.bool true) ∧ Below w.heap.size w w' := by
  unfold maxLen at hxl hyl hpl hcm
  have HAL := Lib.hid (alive_any hG)
  by_cases hbig : 200 < xs.length ∨ 200 < ys.length ∨ 2000 < bs.length
  · clear hx hy hp hvx hvy hG hcn
    have hc : (200 : Int) < (xs.length : Int) ∨ (¬ (200 : Int) < (xs.length : Int) ∧ (200 : Int) < (ys.length : Int)) ∨ (¬ (200 : Int) < (xs.length : Int) ∧ ¬ (200 : Int) < (ys.length : Int) ∧ (2000 : Int) < (bs.length : Int)) := by omega
    clear hbig
    rcases hc with h1 | ⟨h1, h2⟩ | ⟨h1, h2, h3⟩
    all_goals
      go_enter Tryd.func9, Tryd.ntmps9
      go_wp2_with fail
      refine HAL.out.mono ?_
      rintro e w1 ⟨rfl, hb1⟩
      have HB1 := Lib.hid hb1
      clear hb1
      go_wp2
      go_ret
      exact ⟨rfl, HB1.out⟩
  have g1 : ¬ (200 : Int) < (xs.length : Int) := by omega
  have g2 : ¬ (200 : Int) < (ys.length : Int) := by omega
  have g3 : ¬ (2000 : Int) < (bs.length : Int) := by omega
  have n1 : xs.length ≤ 200 := by omega
  have n2 : ys.length ≤ 200 := by omega
  have n3 : bs.length ≤ 2000 := by omega
  clear hbig
  have HX := Lib.hid hx
  have HY := Lib.hid hy
  have HP := Lib.hid hp
  have HG := Lib.hid hG
  have HVX := Lib.hid hvx
  have HVY := Lib.hid hvy
  clear hx hy hp hG hvx hvy
  obtain ⟨k, hk⟩ : ∃ k, k = bs.length / 8 * 4 := ⟨_, rfl⟩
  have hkl : k ≤ bs.length := by omega
  have hk0 : bs.length = 0 ∨ k < bs.length := by omega
  have hk4 : k % 4 = 0 := by omega
  have hq : (bs.length : Int).tdiv 8 = ((bs.length / 8 : Nat) : Int) := (Int.ofNat_tdiv bs.length 8).symm
  have hq2 : ((bs.length / 8 : Nat) : Int) * 4 = (k : Int) := by omega
  have hq3 : wrap64 (((bs.length / 8 : Nat) : Int) * 4) = (k : Int) := by rw [hq2]; exact IntWalk.wrap64_in _ (by omega)
  generalize bs.length / 8 = q8 at *
  clear hk
  have htl : (bs.take k).length = k := by rw [List.length_take]; omega
  have hdl : (bs.drop k).length = bs.length - k := List.length_drop
  obtain ⟨L, hL⟩ : ∃ L, L = ofL bs := ⟨_, rfl⟩
  obtain ⟨L1, hL1⟩ : ∃ L1, L1 = ofL (bs.take k) := ⟨_, rfl⟩
  obtain ⟨L2, hL2⟩ : ∃ L2, L2 = ofL (bs.drop k) := ⟨_, rfl⟩
  have hLL : L1 ++ L2 = L := by rw [hL, hL1, hL2, ofL_app (by rw [htl]; exact hk4), List.take_append_drop]
  have m0 : L.length ≤ 500 := by rw [hL, ofL_len]; omega
  have m1 : L1.length ≤ 500 := by rw [hL1, ofL_len, htl]; omega
  have m2 : L2.length ≤ 500 := by rw [hL2, ofL_len, hdl]; omega
  have hCC : ∃ g o : Nat, (C = none ∧ cc = 0 ∧ bs.length = 0) ∨ (∃ ad, C = some ad ∧ bs.length = 0) ∨ (C = some ⟨g, o, none⟩ ∧ 0 < bs.length) := by
    by_cases h0 : bs.length = 0
    · cases C with
      | none => exact ⟨0, 0, .inl ⟨rfl, hcn rfl, h0⟩⟩
      | some ad => exact ⟨0, 0, .inr (.inl ⟨ad, rfl, h0⟩)⟩
    · obtain ⟨g, o, hC, _⟩ := byte_at HP.out (List.getElem?_eq_getElem (show 0 < bs.length by omega))
      exact ⟨g, o, .inr (.inr ⟨hC, by omega⟩)⟩
  obtain ⟨g, o, hCC⟩ := hCC
  have HO0 := Lib.hid (fun W (hW : Below w.heap.size w W) => show Calls Tryd.prog 24 #[.slice C bs.length cc] W fun e w' => ∃ E cE, e = .returned (.slice E L.length cE) ∧ OpsAt w' E L ∧ Below W.heap.size W w' from by
    rw [hL]
    refine (ofs_any C bs cc (by omega) hcap (by omega) (HP.out.below hW)).mono fun e w' ⟨v, he, ho, hb⟩ => ?_
    obtain ⟨E, cE, rfl, hE, _⟩ := ownO_at ho
    exact ⟨E, cE, he, hE, hb⟩)
  have HO1 := Lib.hid (fun WB (hWB : Below w.heap.size w WB) W (hW : Below WB.heap.size WB W) => show Calls Tryd.prog 24 #[.slice C k cc] W fun e w' => ∃ v, e = .returned v ∧ OwnO w' WB.heap.size v L1 ∧ Below WB.heap.size WB w' from by
    have hBk : BytesAt W C (bs.take k) := fun i r hr => by
      refine (HP.out.below (bl_step hWB hWB.size hW)) i r ?_
      rw [List.map_take, List.getElem?_take] at hr
      split at hr
      · exact hr
      · cases hr
    have h := ofs_any C (bs.take k) cc (by omega) (by omega) (by omega) hBk
    rw [htl, ← hL1] at h
    exact h.mono fun e w' ⟨v, he, ho, hb⟩ => ⟨v, he, own_lower ho hW.size, bl_step hW hW.size hb⟩)
  have HO2 := Lib.hid (fun WB (hWB : Below w.heap.size w WB) W (hW : Below WB.heap.size WB W) (A2 : Option Addr) (c2 : Nat) (hR : (bs.length = 0 ∧ c2 ≤ 9223372036854775807) ∨ (A2 = some ⟨g, o + k, none⟩ ∧ c2 = cc - k ∧ C = some ⟨g, o, none⟩)) => show Calls Tryd.prog 24 #[.slice A2 (bs.length - k) c2] W fun e w' => ∃ E cE, e = .returned (.slice E L2.length cE) ∧ OpsAt w' E L2 ∧ Below W.heap.size W w' ∧ Below WB.heap.size WB w' from by
    have hBk : BytesAt W A2 (bs.drop k) ∧ bs.length - k ≤ c2 ∧ c2 ≤ 9223372036854775807 := by
      rcases hR with ⟨h0, h1⟩ | ⟨rfl, rfl, hC⟩
      · rw [List.drop_eq_nil_of_le (by omega)]
        exact ⟨RowsAt.nil _ _ _, by omega, h1⟩
      · refine ⟨fun i r hr => ?_, by omega, by omega⟩
        rw [List.map_drop, List.getElem?_drop] at hr
        obtain ⟨b', o', hA, hlt, hc⟩ := (HP.out.below (bl_step hWB hWB.size hW)) (k + i) r hr
        rw [hC] at hA
        injection hA with hA
        injection hA with e1 e2 _
        subst e1 e2
        refine ⟨g, o + k, rfl, hlt, fun j v hv => ?_⟩
        have := hc j v hv
        rw [show o + (k + i) * 1 + j = o + k + i * 1 + j from by omega] at this
        exact this
    have h := ofs_any A2 (bs.drop k) c2 (by omega) (by omega) hBk.2.2 hBk.1
    rw [hdl, ← hL2] at h
    refine h.mono fun e w' ⟨v, he, ho, hb⟩ => ?_
    obtain ⟨E, cE, rfl, hE, _⟩ := ownO_at ho
    exact ⟨E, cE, he, hE, hb, bl_step hW hW.size hb⟩)
  have HLL := Lib.hid hLL
  clear hL hL1 hL2 hLL htl hdl hcn hk4
  -- the texts
  obtain ⟨sx, hsx⟩ : ∃ sx : ByteArray, sx = ⟨((textL xs).getD []).toArray⟩ := ⟨_, rfl⟩
  obtain ⟨sy, hsy⟩ : ∃ sy : ByteArray, sy = ⟨((textL ys).getD []).toArray⟩ := ⟨_, rfl⟩
  obtain ⟨sz, hsz⟩ : ∃ sz : ByteArray, sz = ⟨((textL (xs ++ ys)).getD []).toArray⟩ := ⟨_, rfl⟩
  obtain ⟨ex, hex⟩ : ∃ ex, ex = errO (textL xs) := ⟨_, rfl⟩
  obtain ⟨ey, hey⟩ : ∃ ey, ey = errO (textL ys) := ⟨_, rfl⟩
  obtain ⟨ez, hez⟩ : ∃ ez, ez = errO (textL (xs ++ ys)) := ⟨_, rfl⟩
  have hzl : (xs ++ ys).length = xs.length + ys.length := List.length_append
  have HVZ := Lib.hid (vals_app HVX.out HVY.out)
  have hjt := joint xs ys (by omega) (by omega)
  have hcase : (ex = 0 ∧ ey = 0 ∧ ez = 0 ∧ sz = sx ++ sy ∧ Fine (xs ++ ys) ∧ toL sz = linesL (xs ++ ys)) ∨ (ex = 0 ∧ ey = 200 ∧ ez = 200) ∨ (ex = 200 ∧ ez = 200) := by
    rcases hjt with ⟨s, t, e1, e2, e3⟩ | ⟨s, e1, e2, e3⟩ | ⟨q, e1, e2, e3⟩
    · have hfz : Fine (xs ++ ys) := by
        by_cases h : Fine (xs ++ ys)
        · exact h
        · rw [text_no h] at e3
          cases e3
      refine .inl ⟨by rw [hex, e1]; rfl, by rw [hey, e2]; rfl, by rw [hez, e3]; rfl, ?_, hfz, by rw [hsz, text_yes hfz]; rfl⟩
      rw [hsz, hsx, hsy, e1, e2, e3]
      exact ByteArray.ext (by rw [ByteArray.data_append]; simp)
    · exact .inr (.inl ⟨by rw [hex, e1]; rfl, by rw [hey, e2]; rfl, by rw [hez, e3]; rfl⟩)
    · exact .inr (.inr ⟨by rw [hex, e1]; rfl, by rw [hez, e3]; rfl⟩)
  have hslx : sx.size + sy.size ≤ 9223372036854775807 := by
    have h1 : sx.size ≤ 10010000 := by
      rw [hsx]
      show ((textL xs).getD []).toArray.size ≤ _
      rw [List.size_toArray]
      exact textD_len HVX.out
    have h2 : sy.size ≤ 10010000 := by
      rw [hsy]
      show ((textL ys).getD []).toArray.size ≤ _
      rw [List.size_toArray]
      exact textD_len HVY.out
    omega
  have HTX := Lib.hid (fun W (hW : Below w.heap.size w W) => show Calls Tryd.prog 18 #[.slice A xs.length ca] W fun e w' => e = .returned (.tuple #[.string sx, .int .i64 ex]) ∧ Below W.heap.size W w' from by
    rw [hsx, hex]
    exact text_any (HG.out.below hW) A ca xs (by omega) (HX.out.below hW) HVX.out)
  have HTY := Lib.hid (fun W (hW : Below w.heap.size w W) => show Calls Tryd.prog 18 #[.slice B ys.length cb] W fun e w' => e = .returned (.tuple #[.string sy, .int .i64 ey]) ∧ Below W.heap.size W w' from by
    rw [hsy, hey]
    exact text_any (HG.out.below hW) B cb ys (by omega) (HY.out.below hW) HVY.out)
  have HTZ := Lib.hid (fun W (hW : Below w.heap.size w W) (D : Option Addr) (cd : Nat) (hD : OpsAt W D (xs ++ ys)) => show Calls Tryd.prog 18 #[.slice D (xs.length + ys.length) cd] W fun e w' => e = .returned (.tuple #[.string sz, .int .i64 ez]) ∧ Below W.heap.size W w' from by
    rw [hsz, hez, ← hzl]
    exact text_any (HG.out.below hW) D cd (xs ++ ys) (by omega) hD HVZ.out)
  have HPZ := Lib.hid (fun W (hW : Below w.heap.size w W) (hf : Fine (xs ++ ys)) (ht : toL sz = linesL (xs ++ ys)) => show Calls Tryd.prog 19 #[.string sz] W fun e w' => ∃ F cf, e = .returned (.tuple #[.slice F (xs.length + ys.length) cf, .int .i64 0, .int .i64 0]) ∧ OpsAt w' F (xs ++ ys) ∧ Below W.heap.size W w' from by
    have h := parse_fine (HG.out.below hW) (xs ++ ys) hf HVZ.out (by omega) sz ht
    rw [hzl] at h
    exact h)
  have HSZ := Lib.hid (fun W (D F : Option Addr) (cd cf : Nat) (hD : OpsAt W D (xs ++ ys)) (hF : OpsAt W F (xs ++ ys)) => show Calls Tryd.prog 20 #[.slice F (xs.length + ys.length) cf, .slice D (xs.length + ys.length) cd] W fun e w' => e = .returned (.bool true) ∧ Below W.heap.size W w' from by
    have h := same_any F D cf cd (xs ++ ys) (xs ++ ys) hF hD (by omega) (by omega)
    rw [decide_eq_true rfl, hzl] at h
    exact h)
  have HSL := Lib.hid (fun W (D F : Option Addr) (cd cf n : Nat) (hn : n = L.length) (hD : OpsAt W D L) (hF : OpsAt W F L) => show Calls Tryd.prog 20 #[.slice F n cf, .slice D L.length cd] W fun e w' => e = .returned (.bool true) ∧ Below W.heap.size W w' from by
    rw [hn]
    have h := same_any F D cf cd L L hF hD (by omega) (by omega)
    rw [decide_eq_true rfl] at h
    exact h)
  have HCASE := Lib.hid hcase
  have HZL := Lib.hid hzl
  clear hsx hsy hsz hex hey hez hjt hcase hzl
  have HCC := Lib.hid hCC
  have m12 : L1.length + L2.length ≤ 1000000 := by omega
  have hz0 : (0 : Nat) ≤ 9223372036854775807 := Nat.zero_le _
  rcases hCC with ⟨rfl, rfl, hn0⟩ | ⟨ad, rfl, hn0⟩ | ⟨rfl, hn0⟩
  case' inl =>
    obtain rfl : bs = [] := List.eq_nil_of_length_eq_zero hn0
    obtain rfl : k = 0 := by simpa using hkl
    obtain rfl : q8 = 0 := by omega
    clear hq hq2 hq3 hk0 hkl
  case' inr.inl =>
    obtain rfl : bs = [] := List.eq_nil_of_length_eq_zero hn0
    obtain rfl : k = 0 := by simpa using hkl
    obtain rfl : q8 = 0 := by omega
    clear hq hq2 hq3 hk0 hkl
    rcases Nat.eq_zero_or_pos cc with rfl | hcz
  case' inr.inr =>
    have hkc : k < cc := by omega
    have i1 : (k : Int) ≤ (cc : Int) := by omega
    have i2 : (k : Int) ≤ (bs.length : Int) := by omega
    have i3 : (0 : Int) ≤ (k : Int) := by omega
    have i4 : ¬ cc = k := by omega
  all_goals
    go_enter Tryd.func9, Tryd.ntmps9
    go_wp2_with fail
    refine HAL.out.mono ?_
    rintro e W1 ⟨rfl, hb1⟩
    have HB1 := Lib.hid hb1
    clear hb1 HAL
    go_wp2_with fail
    refine (HTX.out _ HB1.out).mono ?_
    rintro e W2 ⟨rfl, hb2⟩
    have HB2 := Lib.hid (bl_step HB1.out HB1.out.size hb2)
    clear hb2 HB1
    go_wp2_with fail
    refine (HTY.out _ HB2.out).mono ?_
    rintro e W3 ⟨rfl, hb3⟩
    have HB3 := Lib.hid (bl_step HB2.out HB2.out.size hb3)
    clear hb3 HB2
    go_wp2_with (at_builtin; refine append_ops rfl _ _ rfl W3.heap.size (.slice (some ⟨W3.heap.size, 0, none⟩) 0 0) [] rfl (World.ownsRow_lit W3 #[] 0 (Nat.le_refl _) (by decide) rfl) A ca xs rfl ((HX.out.below HB3.out).alloc _) (by simp; omega) (by simp) ?_)
    intro v4 W4 ho4 hb4
    have hB4 := (bl_new (Below.refl W3.heap.size W3) _).trans hb4
    have s4 := hB4.size
    have HY4 := Lib.hid ((HY.out.below HB3.out).below hB4)
    clear hb4
    go_wp2_with (at_builtin; refine append_ops rfl _ _ rfl W3.heap.size v4 xs rfl ho4 B cb ys rfl HY4.out (by omega) s4 ?_)
    intro v5 W5 ho5 hb5
    obtain ⟨D, cd, rfl, hD, _⟩ := ownO_at ho5
    have HB5 := Lib.hid (HB3.out.trans ((hB4.trans hb5).mono HB3.out.size))
    have HD5 := Lib.hid hD
    have hzl := HZL.out
    clear ho4 ho5 hb5 hB4 hD HY4 s4 HB3
    go_wp2_with fail
    refine (HTZ.out _ HB5.out D cd HD5.out).mono ?_
    rintro e W6 ⟨rfl, hb6⟩
    have HB6 := Lib.hid (bl_step HB5.out HB5.out.size hb6)
    have HD6 := Lib.hid (HD5.out.below hb6)
    clear hb6 HB5 HD5
    clear hzl
    rcases HCASE.out with ⟨rfl, rfl, rfl, hsz, hfz, htz⟩ | ⟨rfl, rfl, rfl⟩ | ⟨rfl, rfl⟩
    · subst hsz
      have hq9 := seq_true (rfl : sx ++ sy = sx ++ sy)
      go_wp2_with fail
      refine wp_region_any (by kernel_rfl) ?_
      change wpAny _ _ _ _ _ _ _ (World.drew _)
      refine wpAny_take (i := 0) (v := ?_) rfl (by kernel_rfl) (by kernel_rfl) (by kernel_rfl) (fun _ _ _ h => h) (Or.inl ⟨by rfl, ?_⟩) ?_
      rotate_left 1
      · intro w
        go_simp
        all_goals with_reducible rfl
      refine wpAny_take (i := 1) (v := ?_) rfl (by kernel_rfl) (by kernel_rfl) (by kernel_rfl) (fun _ _ _ h => h) (Or.inl ⟨by rfl, ?_⟩) ?_
      rotate_left 1
      · intro w
        go_simp
        all_goals with_reducible rfl
      refine wpAny_take (i := 4) (v := ?_) rfl (by kernel_rfl) (by kernel_rfl) (by kernel_rfl) (fun _ _ _ h => h) (Or.inl ⟨by rfl, ?_⟩) ?_
      rotate_left 1
      · intro w
        go_simp
        all_goals with_reducible rfl
      refine wpAny_take (i := 5) (v := ?_) rfl (by kernel_rfl) (by kernel_rfl) (by kernel_rfl) (fun _ _ _ h => h) (Or.inl ⟨by rfl, ?_⟩) ?_
      rotate_left 1
      · intro w
        go_simp
        all_goals with_reducible rfl
      refine wpAny_take (i := 2) (v := ?_) rfl (by kernel_rfl) (by kernel_rfl) (by kernel_rfl) (fun _ _ _ h => h) (Or.inl ⟨by rfl, ?_⟩) ?_
      rotate_left 1
      · intro w
        go_simp
        all_goals with_reducible rfl
      refine wpAny_take (i := 6) (v := ?_) rfl (by kernel_rfl) (by kernel_rfl) (by kernel_rfl) (fun _ _ _ h => h) (Or.inl ⟨by rfl, ?_⟩) ?_
      rotate_left 1
      · intro w
        go_simp
        all_goals with_reducible rfl
      refine wpAny_ready (rs := [3]) (by kernel_rfl) (by simp) ?_
      refine AllReady.cons rfl (fun K hK => ?_) AllReady.nil
      go_simp
      refine (HO1.out W6 HB6.out _ (Below.refl _ _).drew).mono ?_
      rintro e W8 ⟨v8, rfl, ho8, hb8⟩
      refine hK _ _ ?_
      clear hK K
      refine wpAny_ready (rs := [7]) (by kernel_rfl) (by simp) ?_
      refine AllReady.cons rfl (fun K hK => ?_) AllReady.nil
      go_simp
      refine (HO2.out W6 HB6.out _ hb8 _ _ ?_).mono ?_
      first | exact .inl ⟨hn0, hz0⟩ | exact .inl ⟨hn0, hcm⟩ | exact .inr ⟨rfl, rfl, rfl⟩ | exact .inr ⟨rfl, rfl, trivial⟩
      rintro e W9 ⟨E9, c9, rfl, hE9, hb9, hB9⟩
      have ho9 := ownsRow_below ho8 hb9
      have hs9 := hB9.size
      refine hK _ _ ?_
      clear hK K
      refine wpAny_ready (rs := [8]) (by kernel_rfl) (by simp) ?_
      refine AllReady.cons rfl (fun K hK => ?_) AllReady.nil
      refine step_append_ops rfl _ _ rfl W6.heap.size v8 L1 rfl ho9 E9 c9 L2 rfl hE9 m12 hs9 ?_
      intro v10 W10 ho10 hb10
      refine hK _ _ ?_
      clear hK K
      refine wpAny_ready (rs := [9]) (by kernel_rfl) (by simp) ?_
      refine AllReady.cons rfl (fun K hK => ?_) AllReady.nil
      go_simp
      refine hK _ _ ?_
      clear hK K
      refine wpAny_done (by kernel_rfl) ?_ _
      have hB10 := hB9.trans hb10
      have HB10 := Lib.hid (bl_step HB6.out HB6.out.size hB10)
      have hD10 := HD6.out.below hB10
      rw [HLL.out] at ho10
      obtain ⟨F10, c10, rfl, hF10, _⟩ := ownO_at ho10
      have HF10 := Lib.hid hF10
      have HD10 := Lib.hid hD10
      clear ho10 hF10 hD10 hB10 hb10 hB9 hb9 ho9 ho8 hb8 hE9 hs9
      go_wp2_with fail
      refine (HPZ.out _ HB10.out hfz htz).mono ?_
      rintro e W11 ⟨G, cg, rfl, hG, hb11⟩
      have HB11 := Lib.hid (bl_step HB10.out HB10.out.size hb11)
      have HD11 := Lib.hid (HD10.out.below hb11)
      have HF11 := Lib.hid (HF10.out.below hb11)
      have HG11 := Lib.hid hG
      clear hG hb11
      go_wp2_with fail
      refine (HSZ.out _ D G cd cg HD11.out HG11.out).mono ?_
      rintro e W12 ⟨rfl, hb12⟩
      have HB12 := Lib.hid (bl_step HB11.out HB11.out.size hb12)
      have HF12 := Lib.hid (HF11.out.below hb12)
      clear hb12
      go_wp2_with fail
      refine (HO0.out _ HB12.out).mono ?_
      rintro e W13 ⟨E13, c13, rfl, hE13, hb13⟩
      have HB13 := Lib.hid (bl_step HB12.out HB12.out.size hb13)
      have HF13 := Lib.hid (HF12.out.below hb13)
      have HE13 := Lib.hid hE13
      clear hE13 hb13
      go_wp2_with fail
      refine (HSL.out _ E13 F10 c13 c10 _ rfl HE13.out HF13.out).mono ?_
      rintro e W14 ⟨rfl, hb14⟩
      have HB14 := Lib.hid (bl_step HB13.out HB13.out.size hb14)
      clear hb14
      go_wp2
      go_ret
      exact ⟨by first | rfl | simp, HB14.out⟩
    · go_wp2_with fail
      refine wp_region_any (by kernel_rfl) ?_
      change wpAny _ _ _ _ _ _ _ (World.drew _)
      refine wpAny_take (i := 0) (v := ?_) rfl (by kernel_rfl) (by kernel_rfl) (by kernel_rfl) (fun _ _ _ h => h) (Or.inl ⟨by rfl, ?_⟩) ?_
      rotate_left 1
      · intro w
        go_simp
        all_goals with_reducible rfl
      refine wpAny_take (i := 1) (v := ?_) rfl (by kernel_rfl) (by kernel_rfl) (by kernel_rfl) (fun _ _ _ h => h) (Or.inl ⟨by rfl, ?_⟩) ?_
      rotate_left 1
      · intro w
        go_simp
        all_goals with_reducible rfl
      refine wpAny_take (i := 4) (v := ?_) rfl (by kernel_rfl) (by kernel_rfl) (by kernel_rfl) (fun _ _ _ h => h) (Or.inl ⟨by rfl, ?_⟩) ?_
      rotate_left 1
      · intro w
        go_simp
        all_goals with_reducible rfl
      refine wpAny_take (i := 5) (v := ?_) rfl (by kernel_rfl) (by kernel_rfl) (by kernel_rfl) (fun _ _ _ h => h) (Or.inl ⟨by rfl, ?_⟩) ?_
      rotate_left 1
      · intro w
        go_simp
        all_goals with_reducible rfl
      refine wpAny_take (i := 2) (v := ?_) rfl (by kernel_rfl) (by kernel_rfl) (by kernel_rfl) (fun _ _ _ h => h) (Or.inl ⟨by rfl, ?_⟩) ?_
      rotate_left 1
      · intro w
        go_simp
        all_goals with_reducible rfl
      refine wpAny_take (i := 6) (v := ?_) rfl (by kernel_rfl) (by kernel_rfl) (by kernel_rfl) (fun _ _ _ h => h) (Or.inl ⟨by rfl, ?_⟩) ?_
      rotate_left 1
      · intro w
        go_simp
        all_goals with_reducible rfl
      refine wpAny_ready (rs := [3]) (by kernel_rfl) (by simp) ?_
      refine AllReady.cons rfl (fun K hK => ?_) AllReady.nil
      go_simp
      refine (HO1.out W6 HB6.out _ (Below.refl _ _).drew).mono ?_
      rintro e W8 ⟨v8, rfl, ho8, hb8⟩
      refine hK _ _ ?_
      clear hK K
      refine wpAny_ready (rs := [7]) (by kernel_rfl) (by simp) ?_
      refine AllReady.cons rfl (fun K hK => ?_) AllReady.nil
      go_simp
      refine (HO2.out W6 HB6.out _ hb8 _ _ ?_).mono ?_
      first | exact .inl ⟨hn0, hz0⟩ | exact .inl ⟨hn0, hcm⟩ | exact .inr ⟨rfl, rfl, rfl⟩ | exact .inr ⟨rfl, rfl, trivial⟩
      rintro e W9 ⟨E9, c9, rfl, hE9, hb9, hB9⟩
      have ho9 := ownsRow_below ho8 hb9
      have hs9 := hB9.size
      refine hK _ _ ?_
      clear hK K
      refine wpAny_ready (rs := [8]) (by kernel_rfl) (by simp) ?_
      refine AllReady.cons rfl (fun K hK => ?_) AllReady.nil
      refine step_append_ops rfl _ _ rfl W6.heap.size v8 L1 rfl ho9 E9 c9 L2 rfl hE9 m12 hs9 ?_
      intro v10 W10 ho10 hb10
      refine hK _ _ ?_
      clear hK K
      refine wpAny_ready (rs := [9]) (by kernel_rfl) (by simp) ?_
      refine AllReady.cons rfl (fun K hK => ?_) AllReady.nil
      go_simp
      refine hK _ _ ?_
      clear hK K
      refine wpAny_done (by kernel_rfl) ?_ _
      have hB10 := hB9.trans hb10
      have HB10 := Lib.hid (bl_step HB6.out HB6.out.size hB10)
      have hD10 := HD6.out.below hB10
      rw [HLL.out] at ho10
      obtain ⟨F10, c10, rfl, hF10, _⟩ := ownO_at ho10
      have HF10 := Lib.hid hF10
      have HD10 := Lib.hid hD10
      clear ho10 hF10 hD10 hB10 hb10 hB9 hb9 ho9 ho8 hb8 hE9 hs9
      have HB12 := HB10
      have HF12 := HF10
      go_wp2_with fail
      refine (HO0.out _ HB12.out).mono ?_
      rintro e W13 ⟨E13, c13, rfl, hE13, hb13⟩
      have HB13 := Lib.hid (bl_step HB12.out HB12.out.size hb13)
      have HF13 := Lib.hid (HF12.out.below hb13)
      have HE13 := Lib.hid hE13
      clear hE13 hb13
      go_wp2_with fail
      refine (HSL.out _ E13 F10 c13 c10 _ rfl HE13.out HF13.out).mono ?_
      rintro e W14 ⟨rfl, hb14⟩
      have HB14 := Lib.hid (bl_step HB13.out HB13.out.size hb14)
      clear hb14
      go_wp2
      go_ret
      exact ⟨by first | rfl | simp, HB14.out⟩
    · go_wp2_with fail
      refine wp_region_any (by kernel_rfl) ?_
      change wpAny _ _ _ _ _ _ _ (World.drew _)
      refine wpAny_take (i := 0) (v := ?_) rfl (by kernel_rfl) (by kernel_rfl) (by kernel_rfl) (fun _ _ _ h => h) (Or.inl ⟨by rfl, ?_⟩) ?_
      rotate_left 1
      · intro w
        go_simp
        all_goals with_reducible rfl
      refine wpAny_take (i := 1) (v := ?_) rfl (by kernel_rfl) (by kernel_rfl) (by kernel_rfl) (fun _ _ _ h => h) (Or.inl ⟨by rfl, ?_⟩) ?_
      rotate_left 1
      · intro w
        go_simp
        all_goals with_reducible rfl
      refine wpAny_take (i := 4) (v := ?_) rfl (by kernel_rfl) (by kernel_rfl) (by kernel_rfl) (fun _ _ _ h => h) (Or.inl ⟨by rfl, ?_⟩) ?_
      rotate_left 1
      · intro w
        go_simp
        all_goals with_reducible rfl
      refine wpAny_take (i := 5) (v := ?_) rfl (by kernel_rfl) (by kernel_rfl) (by kernel_rfl) (fun _ _ _ h => h) (Or.inl ⟨by rfl, ?_⟩) ?_
      rotate_left 1
      · intro w
        go_simp
        all_goals with_reducible rfl
      refine wpAny_take (i := 2) (v := ?_) rfl (by kernel_rfl) (by kernel_rfl) (by kernel_rfl) (fun _ _ _ h => h) (Or.inl ⟨by rfl, ?_⟩) ?_
      rotate_left 1
      · intro w
        go_simp
        all_goals with_reducible rfl
      refine wpAny_take (i := 6) (v := ?_) rfl (by kernel_rfl) (by kernel_rfl) (by kernel_rfl) (fun _ _ _ h => h) (Or.inl ⟨by rfl, ?_⟩) ?_
      rotate_left 1
      · intro w
        go_simp
        all_goals with_reducible rfl
      refine wpAny_ready (rs := [3]) (by kernel_rfl) (by simp) ?_
      refine AllReady.cons rfl (fun K hK => ?_) AllReady.nil
      go_simp
      refine (HO1.out W6 HB6.out _ (Below.refl _ _).drew).mono ?_
      rintro e W8 ⟨v8, rfl, ho8, hb8⟩
      refine hK _ _ ?_
      clear hK K
      refine wpAny_ready (rs := [7]) (by kernel_rfl) (by simp) ?_
      refine AllReady.cons rfl (fun K hK => ?_) AllReady.nil
      go_simp
      refine (HO2.out W6 HB6.out _ hb8 _ _ ?_).mono ?_
      first | exact .inl ⟨hn0, hz0⟩ | exact .inl ⟨hn0, hcm⟩ | exact .inr ⟨rfl, rfl, rfl⟩ | exact .inr ⟨rfl, rfl, trivial⟩
      rintro e W9 ⟨E9, c9, rfl, hE9, hb9, hB9⟩
      have ho9 := ownsRow_below ho8 hb9
      have hs9 := hB9.size
      refine hK _ _ ?_
      clear hK K
      refine wpAny_ready (rs := [8]) (by kernel_rfl) (by simp) ?_
      refine AllReady.cons rfl (fun K hK => ?_) AllReady.nil
      refine step_append_ops rfl _ _ rfl W6.heap.size v8 L1 rfl ho9 E9 c9 L2 rfl hE9 m12 hs9 ?_
      intro v10 W10 ho10 hb10
      refine hK _ _ ?_
      clear hK K
      refine wpAny_ready (rs := [9]) (by kernel_rfl) (by simp) ?_
      refine AllReady.cons rfl (fun K hK => ?_) AllReady.nil
      go_simp
      refine hK _ _ ?_
      clear hK K
      refine wpAny_done (by kernel_rfl) ?_ _
      have hB10 := hB9.trans hb10
      have HB10 := Lib.hid (bl_step HB6.out HB6.out.size hB10)
      have hD10 := HD6.out.below hB10
      rw [HLL.out] at ho10
      obtain ⟨F10, c10, rfl, hF10, _⟩ := ownO_at ho10
      have HF10 := Lib.hid hF10
      have HD10 := Lib.hid hD10
      clear ho10 hF10 hD10 hB10 hb10 hB9 hb9 ho9 ho8 hb8 hE9 hs9
      have HB12 := HB10
      have HF12 := HF10
      go_wp2_with fail
      refine (HO0.out _ HB12.out).mono ?_
      rintro e W13 ⟨E13, c13, rfl, hE13, hb13⟩
      have HB13 := Lib.hid (bl_step HB12.out HB12.out.size hb13)
      have HF13 := Lib.hid (HF12.out.below hb13)
      have HE13 := Lib.hid hE13
      clear hE13 hb13
      go_wp2_with fail
      refine (HSL.out _ E13 F10 c13 c10 _ rfl HE13.out HF13.out).mono ?_
      rintro e W14 ⟨rfl, hb14⟩
      have HB14 := Lib.hid (bl_step HB13.out HB13.out.size hb14)
      clear hb14
      go_wp2
      go_ret
      exact ⟨by first | rfl | simp, HB14.out⟩
end Go.Proofs.YtgefnicpkfcghaaDoor
