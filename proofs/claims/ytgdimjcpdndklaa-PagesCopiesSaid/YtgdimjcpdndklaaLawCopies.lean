/-
  A table goes on by calls, and a law of copies: PagesCopies. No condition.
-/
import Derived.Test.YtgdimjcpdndklaaSame
import Derived.Test.YtgdimjcpdndklaaOpen
namespace Go.Proofs.Ytgdimjcpdndklaa.lawPagesCopies
open Go.ChangeShapes Go.WideShapes Go.ChangeAt Go.RowKit
set_option linter.unusedVariables false

theorem tab_but {w w' : World} {bt : Nat} {q : Nat → Option Nat} {m : M} {S : Nat → Prop} (h : Tab w bt q m) (hb : But S w w') (hS : ∀ k, Own bt q k → ¬ S k) : Tab w' bt q m :=
  ⟨h.top.but hb (hS _ (.inl rfl)), fun k pb hk hq => (h.part k pb hk hq).but hb (hS _ (.inr ⟨k, hk, hq⟩)), h.some_, h.none_, h.inj⟩
theorem Mut.start {w : World} {bt : Nat} {q : Nat → Option Nat} {m : M} (h : Tab w bt q m) : Mut w bt q m w := ⟨q, h, But.refl _ _, fun k hk => .inl hk⟩
theorem Mut.butOf {w w' : World} {bt : Nat} {q : Nat → Option Nat} {m : M} (h : Mut w bt q m w') : But (Own bt q) w w' := h.elim fun _ x => x.2.1
theorem Mut.drew {w w' : World} {bt : Nat} {q : Nat → Option Nat} {m : M} (h : Mut w bt q m w') : Mut w bt q m w'.drew := by
  obtain ⟨q', ht, hb, ho⟩ := h
  exact ⟨q', ht.drew, hb.drew, ho⟩
theorem Mut.go {w w1 w2 : World} {bt : Nat} {q q1 : Nat → Option Nat} {m : M} (hb : But (Own bt q) w w1) (ho : ∀ k, Own bt q1 k → Own bt q k ∨ w.heap.size ≤ k) (h : Mut w1 bt q1 m w2) : Mut w bt q m w2 := by
  obtain ⟨q', ht, hb', ho'⟩ := h
  refine ⟨q', ht, hb.trans hb' ho, fun k hk => ?_⟩
  rcases ho' k hk with h1 | h1
  · exact ho k h1
  · exact .inr (Nat.le_trans hb.size h1)
theorem OpsAt.but {w w' : World} {A : Option Addr} {l : List O} {S : Nat → Prop} (h : OpsAt w A l) (hb : But S w w') (hl : 0 < l.length → ∀ b off, A = some ⟨b, off, none⟩ → ¬ S b) : OpsAt w' A l := fun i o ho => by
  obtain ⟨b, off, hA, hlt, h0, h1, h2, h3, h4, h5, h6⟩ := h i o ho
  have hlB := hb.block b hlt (hl (by have := (List.getElem?_eq_some_iff.1 ho).1; omega) b off hA)
  have hc : ∀ k, w'.cell? ⟨b, k, none⟩ = w.cell? ⟨b, k, none⟩ := fun k => by
    unfold World.cell?
    simp only [hlB]
  exact ⟨b, off, hA, Nat.lt_of_lt_of_le hlt hb.size, (hc _).trans h0, (hc _).trans h1, (hc _).trans h2, (hc _).trans h3, (hc _).trans h4, (hc _).trans h5, (hc _).trans h6⟩

section
variable {w W : World} {bt : Nat} {q : Nat → Option Nat} {m : M}
theorem set_mut (h : Mut w bt q m W) (x : E) (p : Int) : Calls Try.prog 16 #[.pointer (some ⟨bt, 0, none⟩), .int .i64 p, x.val] W
    fun e w' => e = .returned (.int .i64 (if may p x then 0 else 50)) ∧ Mut w bt q (setM m p x) w' := by
  obtain ⟨q1, ht, hb, ho⟩ := h
  exact (set_any ht x p).mono fun e w' ⟨he, hm⟩ => ⟨he, Mut.go hb ho hm⟩
theorem clear_mut (h : Mut w bt q m W) (p : Int) : Calls Try.prog 19 #[.pointer (some ⟨bt, 0, none⟩), .int .i64 p] W
    fun e w' => e = .returned (gotV (look m p)) ∧ Mut w bt q (clearM m p) w' := by
  obtain ⟨q1, ht, hb, ho⟩ := h
  exact (clear_any ht p).mono fun e w' ⟨he, hm⟩ => ⟨he, Mut.go hb ho hm⟩
theorem clean_mut (h : Mut w bt q m W) : Calls Try.prog 20 #[.pointer (some ⟨bt, 0, none⟩)] W
    fun e w' => e = .returned (.int .i64 (filt E.d (list m)).length) ∧ Mut w bt q (cl m) w' := by
  obtain ⟨q1, ht, hb, ho⟩ := h
  exact (clean_any ht).mono fun e w' ⟨he, hm⟩ => ⟨he, Mut.go hb ho hm⟩
end

set_option maxHeartbeats 2000000 in
theorem on_mut {w : World} {bt : Nat} {q : Nat → Option Nat} {m0 : M} (hT0 : Tab w bt q m0) (A : Option Addr) (c : Nat) (l : List O) (hl : l.length ≤ 150) (hO : OpsAt w A l) (hlow : 0 < l.length → ∀ b off, A = some ⟨b, off, none⟩ → ¬ Own bt q b) : Calls Try.prog 30 #[.pointer (some ⟨bt, 0, none⟩), .slice A l.length c] w
    fun e w' => e = .returned (.tuple #[]) ∧ Mut w bt q (runM m0 l) w' := by
  go_enter Try.func30, Try.ntmps30
  go_wp2
  go_loopw [7] (fun i wr => ∃ k : Nat, k ≤ l.length ∧ i = .int .i64 k ∧ Mut w bt q (runM m0 (l.take k)) wr) (fun i _ => l.length - (intOf i).toNat)
  case atStart => exact ⟨0, by omega, rfl, Mut.start hT0⟩
  case round =>
    obtain ⟨k, hk, rfl, hT⟩ := hrel
    by_cases hlt : k < l.length
    · have hOr := OpsAt.but hO (Mut.butOf hT) hlow
      obtain ⟨o, ho⟩ : ∃ o, l[k]? = some o := ⟨_, List.getElem?_eq_getElem hlt⟩
      have htk : runM m0 (l.take (k + 1)) = stepM (runM m0 (l.take k)) o := by
        rw [List.take_add_one, ho]; exact runM_snoc _ _ _
      obtain ⟨b, off, rfl, hbl, c0, c1, c2, c3, c4, c5, c6⟩ := hOr k o ho
      have hlt' : (k : Int) < (l.length : Int) := by omega
      obtain ⟨ok, op, ox⟩ := o
      generalize runM m0 (l.take k) = m at *
      simp only [stepM] at htk c0 c1 c2 c3 c4 c5 c6
      have hT' := hT
      clear hOr ho hO hT0 hT
      by_cases k0 : ok = 0
      · rw [if_pos k0] at htk
        subst k0
        have HTK := Lib.hid htk
        obtain ⟨f, e1, e2, e3, e4⟩ := ox
        have hset := fun W (h : Mut w bt q m W) => set_mut h ⟨f, e1, e2, e3, e4⟩ op
        simp only [E.val, E.arr] at hset c2 c3 c4 c5 c6
        have HS := Lib.hid hset
        clear htk hset
        go_upto_region 5 with (fail)
        go_still_tail 11, (by kernel_rfl)
        change wpList _ _ _ _ _ wr.drew
        go_wp2_with (go_at_call 16; refine (HS.out _ (Mut.drew hT')).mono ?_; rintro e w1 ⟨rfl, hT1⟩)
        go_roundw
        case rel => exact ⟨k + 1, by omega, by go_num, by rw [HTK.out]; exact hT1⟩
        case measure => simp [intOf]; omega
      · rw [if_neg k0] at htk
        have n0 : (ok == 0) = false := beq_eq_false_iff_ne.2 k0
        by_cases k1 : ok = 1
        · rw [if_pos k1] at htk
          subst k1
          have HTK := Lib.hid htk
          have HS := Lib.hid (fun W (h : Mut w bt q m W) => clear_mut h op)
          clear htk k0 n0
          go_wp2_with (go_at_call 19; refine (HS.out _ hT').mono ?_; rintro e w1 ⟨rfl, hT1⟩)
          go_roundw
          case rel => exact ⟨k + 1, by omega, by go_num, by rw [HTK.out]; exact hT1⟩
          case measure => simp [intOf]; omega
        · rw [if_neg k1] at htk
          have n1 : (ok == 1) = false := beq_eq_false_iff_ne.2 k1
          by_cases k2 : ok = 2
          · rw [if_pos k2] at htk
            subst k2
            have HTK := Lib.hid htk
            have HS := Lib.hid (fun W (h : Mut w bt q m W) => clean_mut h)
            clear htk k0 n0 k1 n1
            go_wp2_with (go_at_call 20; refine (HS.out _ hT').mono ?_; rintro e w1 ⟨rfl, hT1⟩)
            go_roundw
            case rel => exact ⟨k + 1, by omega, by go_num, by rw [HTK.out]; exact hT1⟩
            case measure => simp [intOf]; omega
          · rw [if_neg k2] at htk
            have n2 : (ok == 2) = false := beq_eq_false_iff_ne.2 k2
            have HTK := Lib.hid htk
            clear htk k0 k1 k2
            go_wp2
            go_roundw
            case rel => exact ⟨k + 1, by omega, by go_num, by rw [HTK.out]; exact hT'⟩
            case measure => simp [intOf]; omega
    · have hkl : l.take k = l := List.take_of_length_le (by omega)
      rw [hkl] at hT
      clear hkl
      go_wp2
      go_end0
      exact ⟨rfl, hT⟩

set_option maxRecDepth 100000 in
set_option maxHeartbeats 4000000 in
theorem walk {w : World} (A B : Option Addr) (ca cb : Nat) (l k : List O) (hO : OpsAt w A l) (hl : l.length ≤ maxLen) (hOk : OpsAt w B k) (hk : k.length ≤ maxLen) :
    Calls Try.prog 9 #[.slice A l.length ca, .slice B k.length cb] w fun e w' => e = .returned (.bool true) ∧ Below w.heap.size w w' := by
  unfold maxLen at hl hk
  by_cases hl150 : 150 < l.length
  · clear hO hOk
    go_enter Try.func9, Try.ntmps9
    go_wp2_with (go_at_call 10; refine alive_fn.mono ?_; rintro e w1 ⟨rfl, hb1⟩)
    go_ret
    exact ⟨rfl, hb1⟩
  · have hle : l.length ≤ 150 := by omega
    clear hl150
    by_cases hk150 : 150 < k.length
    · clear hO hOk
      go_enter Try.func9, Try.ntmps9
      go_wp2_with (go_at_call 10; refine alive_fn.mono ?_; rintro e w1 ⟨rfl, hb1⟩)
      go_ret
      exact ⟨rfl, hb1⟩
    · have hke : k.length ≤ 150 := by omega
      clear hk150
      have hlow : 0 < k.length → ∀ b off, B = some ⟨b, off, none⟩ → b < w.heap.size := fun h0 b off hB => by
        obtain ⟨b', off', hA, hlt, _⟩ := hOk 0 _ (List.getElem?_eq_getElem h0)
        rw [hB] at hA
        injection hA with hA
        injection hA with hA
        omega
      have HLOW := Lib.hid hlow
      have HOk := Lib.hid hOk
      clear hlow hOk
      go_enter Try.func9, Try.ntmps9
      go_wp2_with fail
      refine alive_fn.mono ?_
      rintro e w1 ⟨rfl, hb1⟩
      have hO1 := hO.below hb1
      have HO1 := Lib.hid hO1
      clear hO1 hO
      go_wp2_with fail
      refine (grown_any A ca l hle HO1.out).mono ?_
      rintro e w2 ⟨rfl, hT2, hb2⟩
      generalize runM (fun _ => none) l = m at *
      generalize hbt : w1.heap.size = bt at *
      have HT2 := Lib.hid hT2
      clear hT2
      go_wp2_with fail
      refine (list_new HT2.out).mono ?_
      rintro e w3 ⟨v, rfl, hv, hv0, hb3⟩
      obtain ⟨A1, c1, rfl, hA1⟩ := mapsAt_own hv
      have hT3 := HT2.out.below hb3
      have hs1 := hb1.size
      have hs2 := hb2.size
      have hs3 := hb3.size
      obtain ⟨q, hq, hown⟩ := hT3
      have hlen : (list m).length ≤ 1000000 := Nat.le_trans (listN_len m 64 0) (by omega)
      have HQ := Lib.hid hq
      have HOWN := Lib.hid hown
      have HA1 := Lib.hid hA1
      have HLEN := Lib.hid hlen
      clear hv hv0 HT2 HO1 hq hown hA1 hlen
      go_wp2_with fail
      refine (copy_any HQ.out).mono ?_
      rintro e w4 ⟨qc, rfl, hqc, hb4, hownc⟩
      generalize hct : w3.heap.size = ct at *
      have hs4 := hb4.size
      have hlow4 : 0 < k.length → ∀ b off, B = some ⟨b, off, none⟩ → ¬ Own ct qc b := fun h0 b off hB hbo => by
        have := HLOW.out h0 b off hB
        have := hownc _ hbo
        omega
      have hBall4 : Below w.heap.size w w4 := ((hb1.trans (hb2.mono (by omega))).trans (hb3.mono (by omega))).trans (hb4.mono (by omega))
      have HO4 := Lib.hid (HOk.out.below hBall4)
      have HQC := Lib.hid hqc
      have HOWNC := Lib.hid hownc
      have HLOW4 := Lib.hid hlow4
      clear hqc hownc hlow4
      go_wp2_with fail
      refine (on_mut HQC.out B cb k hke HO4.out HLOW4.out).mono ?_
      rintro e w5 ⟨rfl, hM5⟩
      obtain ⟨qc5, hqc5, hbut5, hownc5⟩ := hM5
      have hb45 : Below ct w4 w5 := hbut5.below (fun j hj => by have := HOWNC.out j hj; omega) (by omega)
      have hb35 : Below ct w3 w5 := hb4.trans hb45
      have hq5 := HQ.out.below hb35 (by omega)
      have hA15 := HA1.out.below (by rw [hct]; exact hb35)
      have hs5 := hb45.size
      have hown5 : ∀ j, Own ct qc5 j → ct ≤ j := fun j hj => by
        rcases hownc5 j hj with h | h
        · exact HOWNC.out j h
        · omega
      have HQ5 := Lib.hid hq5
      have HA15 := Lib.hid hA15
      have HQC5 := Lib.hid hqc5
      have HOWN5 := Lib.hid hown5
      clear hqc5 hownc5 hq5 hA15 hown5 hbut5 HQC HOWNC HLOW4
      go_wp2_with fail
      refine (list_any HQ5.out).mono ?_
      rintro e w6 ⟨v2, rfl, hv2, hv20, hb6⟩
      obtain ⟨A2, c2, rfl, hA2⟩ := mapsAt_own hv2
      have HA2 := Lib.hid hA2
      have HA16 := Lib.hid (HA15.out.below hb6)
      have hs6 := hb6.size
      clear hA2 hv2 hv20
      go_wp2_with fail
      refine (same_any A2 A1 c2 c1 (list m) (list m) HA2.out HA16.out HLEN.out HLEN.out).mono ?_
      rintro e w7 ⟨rfl, hb7⟩
      rw [show decide (list m = list m) = true from decide_eq_true rfl]
      have hs7 := hb7.size
      have hb57 : Below w5.heap.size w5 w7 := hb6.trans (hb7.mono (by omega))
      have hBall7 : Below w.heap.size w w7 := ((hBall4.trans (hb45.mono (by omega))).trans (hb57.mono (by omega)))
      have HQ7 := Lib.hid (HQ5.out.below hb57 (Nat.le_refl _))
      have HQC7 := Lib.hid (HQC5.out.below hb57 (Nat.le_refl _))
      have HO7 := Lib.hid (HOk.out.below hBall7)
      have hlow7 : 0 < k.length → ∀ b off, B = some ⟨b, off, none⟩ → ¬ Own bt q b := fun h0 b off hB hbo => by
        have := HLOW.out h0 b off hB
        have := HOWN.out _ hbo
        omega
      have HLOW7 := Lib.hid hlow7
      clear hlow7
      go_wp2_with fail
      refine (on_mut HQ7.out B cb k hke HO7.out HLOW7.out).mono ?_
      rintro e w8 ⟨rfl, hM8⟩
      obtain ⟨q8, hq8, hbut8, hown8⟩ := hM8
      have hqc8 := tab_but HQC7.out hbut8 (fun j hj hj2 => by
        have h1 := HOWN5.out j hj
        have h2 := HQ.out.own_lt hj2
        omega)
      have hb78 : Below bt w7 w8 := hbut8.below (fun j hj => HOWN.out j hj) (by omega)
      have hs8 := hb78.size
      have hBall8 : Below w.heap.size w w8 := hBall7.trans (hb78.mono (by omega))
      have HQ8 := Lib.hid hq8
      have HQC8 := Lib.hid hqc8
      generalize runM m k = m' at *
      have hlen' : (list m').length ≤ 1000000 := Nat.le_trans (listN_len m' 64 0) (by omega)
      have HLEN' := Lib.hid hlen'
      clear hq8 hqc8 hbut8 hown8 hlen' HA1 HA2 HA15 HA16
      go_wp2_with fail
      refine (list_any HQ8.out).mono ?_
      rintro e w9 ⟨v3, rfl, hv3, hv30, hb9⟩
      obtain ⟨A3, c3, rfl, hA3⟩ := mapsAt_own hv3
      have hs9 := hb9.size
      have HA3 := Lib.hid hA3
      have HQC9 := Lib.hid (HQC8.out.below hb9 (Nat.le_refl _))
      clear hv3 hv30 hA3
      go_wp2_with fail
      refine (list_any HQC9.out).mono ?_
      rintro e w10 ⟨v4, rfl, hv4, hv40, hb10⟩
      obtain ⟨A4, c4, rfl, hA4⟩ := mapsAt_own hv4
      have hs10 := hb10.size
      have HA4 := Lib.hid hA4
      have HA310 := Lib.hid (HA3.out.below hb10)
      clear hv4 hv40 hA4
      go_wp2_with fail
      refine (same_any A3 A4 c3 c4 (list m') (list m') HA310.out HA4.out HLEN'.out HLEN'.out).mono ?_
      rintro e w11 ⟨rfl, hb11⟩
      rw [show decide (list m' = list m') = true from decide_eq_true rfl]
      have hs11 := hb11.size
      have hb811 : Below w8.heap.size w8 w11 := (hb9.trans (hb10.mono (by omega))).trans (hb11.mono (by omega))
      have HQ11 := Lib.hid (HQ8.out.below hb811 (Nat.le_refl _))
      have HQC11 := Lib.hid (HQC8.out.below hb811 (Nat.le_refl _))
      go_wp2_with fail
      refine (parts_any HQ11.out).mono ?_
      rintro e w12 ⟨rfl, rfl⟩
      go_wp2_with fail
      refine (parts_any HQC11.out).mono ?_
      rintro e w13 ⟨rfl, rfl⟩
      go_wp2_with fail
      go_ret
      exact ⟨rfl, hBall8.trans (hb811.mono (by omega))⟩

theorem own : ownKnob Try.prog.godebug = none := by kernel_rfl
theorem laidOut : laidOutB Try.prog = true := by kernel_rfl

set_option maxRecDepth 100000 in
theorem lifted (os : Os) (started : os.Started) (H : Type) (enc : TypeId × Value → H) :
    ReturnsInHanded {} Try.checked os 9 .any (Rows.pagesCopiesSpec.pre6 enc Try.prog Try.f9 Rows.pagesCopiesRow.domain false) (Rows.pagesCopiesSpec.post enc Try.prog Try.f9 false true false false) := by
  refine returnsInHanded_of_change (C := Try.checked) own started (by kernel_rfl) Try.func9
    (ChangeSpec.witness6 (enc := enc) (C := Try.checked) false ⟨#[], #[.slice none 0 0, .slice none 0 0], []⟩ 8 (by kernel_rfl) (by kernel_rfl) (by kernel_rfl) (by kernel_rfl)) ?_
  intro W base args ds gs before hval0 hW hcnd _
  have hval : ∀ (j : Nat) t v, Try.f9.params[j]? = some t → args[j]? = some v → Value.okWide Try.prog W .any base t v := hval0
  have hW' := hW
  obtain ⟨p, q, hA0, hV, rfl, hfz, hnd⟩ := hW
  have hA : DataW.TrodAll enc Try.prog W 0 (fun _ => true) true Try.f9.params.toList args.toList ds p := hA0
  rw [Try.params9] at hA hval
  obtain ⟨v0, v1, d0, d1, p0, p1, rfl, rfl, rfl, h0, h1⟩ := trodAll_two hA
  obtain ⟨A, c, l, rfl, hO, hl⟩ := open_ops (hval 0 22 v0 rfl rfl) h0
  obtain ⟨B, c', k, rfl, hOk, hk⟩ := open_ops (hval 1 22 v1 rfl rfl) h1
  refine (walk A B c c' l k hO hl hOk hk).mono fun e W' ⟨he, hb⟩ => ?_
  subst he
  exact ⟨_, rfl, law_post (tb := 4) laidOut (by kernel_rfl) rfl rfl Try.underlying4 hW' (fun _ => rfl) hb⟩

theorem holds : Rows.PagesCopiesSaid :=
  OpenClaim.holds_of_wide 9 Try.f9 rfl rfl rfl rfl rfl rfl rfl ⟨rfl, rfl, rfl, rfl, rfl⟩ rfl rfl rfl rfl rfl (by kernel_rfl) Try.func9 (by kernel_rfl)
    (of_decide_eq_true (by kernel_rfl)) (by unfold Func.isWrapper; first | (rw [if_pos (by decide +kernel)]; kernel_rfl) | (rw [if_neg (by decide +kernel)]; exact ⟨rfl, rfl⟩))
    (fun os started H enc _ => lifted os started H enc)
end Go.Proofs.Ytgdimjcpdndklaa.lawPagesCopies
