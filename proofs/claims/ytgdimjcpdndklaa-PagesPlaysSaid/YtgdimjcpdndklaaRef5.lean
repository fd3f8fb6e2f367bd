/-
  Walks over the reference of package pages: Set. No condition.
-/
import Derived.Test.YtgdimjcpdndklaaRef4
namespace Go.Proofs.Ytgdimjcpdndklaa
open Go.RowKit
set_option linter.unusedVariables false
set_option linter.unusedSimpArgs false

theorem mapped_new (wr : World) (xn : Nat) (f : Int) (e1 e2 e3 e4 : Bool) (o : Obj) : ∀ W, W = (wr.alloc o).alloc (.cells #[.int .i64 xn, .int .i64 f, .bool e1, .bool e2, .bool e3, .bool e4] 42) →
    ∀ j u, (mapCells (xn, ⟨f, e1, e2, e3, e4⟩))[j]? = some u → W.cell? ((⟨wr.heap.size + 1, 0, none⟩ : Addr).add j) = some u := by
  intro W hW
  subst hW
  have := cells_new (wr.alloc o) 42 (mapCells (xn, ⟨f, e1, e2, e3, e4⟩))
  rw [World.size_alloc] at this
  exact this

set_option maxHeartbeats 4000000 in
theorem refSet_any {w : World} {base rt : Nat} {m : M} (h : RT w base rt (list m)) (hbase : base ≤ w.heap.size) (p : Int) (x : E) : Calls Try.prog 23 #[.pointer (some ⟨rt, 0, none⟩), .int .i64 p, x.val] w
    fun e w' => e = .returned (.int .i64 (if may p x then 0 else 50)) ∧ RT w' base rt (list (setM m p x)) ∧ But (fun k => k = rt) w w' := by
  obtain ⟨i0, hi, hz0, hz1, hz2⟩ := info_parts infoM
  have hlt : rt < w.heap.size := by obtain ⟨A, c, _, h1, _⟩ := h.open_; exact h1
  have hbr : base ≤ rt := by obtain ⟨v, _, _, h3, _⟩ := h; exact h3
  have HM := Lib.hid (fun W => refMay_any x W)
  by_cases hmay : may p x = true
  · rw [if_pos hmay]
    have hm3 := hmay
    unfold may at hm3
    simp only [Bool.and_eq_true, decide_eq_true_eq] at hm3
    obtain ⟨⟨hok, hp0⟩, hp1⟩ := hm3
    obtain ⟨k0, rfl⟩ := Int.eq_ofNat_of_zero_le hp0
    have hk0 : k0 < 64 := by omega
    have hset : setM m (k0 : Int) x = upd m k0 (some x) := setM_good hk0 hok
    have hcl : clearM m (k0 : Int) = upd m k0 none := clearM_good hk0
    rw [hset]
    have hstep : ∀ k, k < 64 → listN (upd m k0 (some x)) 0 (k + 1) = listN (upd m k0 (some x)) 0 k ++ (if k = k0 then [(k, x)] else match m k with | none => [] | some y => [(k, y)]) := fun k hk => by
      rw [listN_snoc, Nat.zero_add]
      congr 1
      by_cases hkk : k = k0
      · subst hkk; rw [upd_at, if_pos rfl]
      · have hu : upd m k0 (some x) k = m k := by unfold upd; rw [if_neg hkk]
        rw [if_neg hkk, hu]
        cases m k <;> rfl
    have hll : ∀ k, (listN (upd m k0 (some x)) 0 k).length ≤ k := fun k => listN_len _ k 0
    have hgetk : ∀ k, k < 64 → k ≠ k0 → look (upd m k0 none) (k : Int) = m k := fun k hk hkk => by
      rw [look_nat _ hk]; unfold upd; rw [if_neg hkk]
    have HCLR := Lib.hid (fun W (hW : Below w.heap.size w W) => refClear_any (h.below hW) (by have := hW.size; omega) (k0 : Int))
    rw [hcl] at HCLR
    rw [hok] at HM
    have HSTEP := Lib.hid hstep
    have HLL := Lib.hid hll
    have HGK := Lib.hid hgetk
    obtain ⟨xf, x1, x2, x3, x4⟩ := x
    generalize hm' : upd m k0 (some ⟨xf, x1, x2, x3, x4⟩) = m' at *
    have hbx := (Below.refl w.heap.size w).alloc (Nat.le_refl _) (.cells #[.int .i64 xf, .bool x1, .bool x2, .bool x3, .bool x4] 29)
    have hX0 := Blk.new w 29 #[.int .i64 xf, .bool x1, .bool x2, .bool x3, .bool x4]
    simp only [E.val, E.arr] at HM hbx hX0 ⊢
    have HX0 := Lib.hid hX0
    clear hX0 hm' hll hstep hgetk hset hcl hok hmay h
    go_enter Try.func23, Try.ntmps23
    go_wp2_with fail
    refine (HM.out _).mono ?_
    rintro e w1 ⟨rfl, hb1⟩
    have hB1 := hbx.trans (hb1.mono (by simp))
    have HX1 := Lib.hid (HX0.out.below hb1 (by simp))
    clear HX0 HM hbx
    go_wp2_with fail
    refine (HCLR.out _ hB1).mono ?_
    rintro e w2 ⟨rfl, hT2, hbt2⟩
    have hX2 := HX1.out.but hbt2 (by omega)
    have hs1 := hb1.size
    rw [World.size_alloc] at hs1
    have hs2 := hbt2.size
    have hB2 : But (fun k => k = rt) w w2 := (But.of_below hB1).trans hbt2 (fun i hi => .inl hi)
    have HB2 := Lib.hid hB2
    have HT2 := Lib.hid hT2
    have HX2 := Lib.hid hX2
    clear hX2 hT2 hB2 hbt2 HX1 hb1 hB1
    go_wp2
    go_loopw [8, 9] (fun v i wr => ∃ k : Nat, i = .int .i64 (k : Int) ∧ k ≤ 64 ∧ OwnM wr w2.heap.size v (listN m' 0 k) ∧ Below w2.heap.size w2 wr) (fun _ i _ => 64 - (intOf i).toNat)
    case atStart => exact ⟨0, rfl, Nat.zero_le _, World.ownsRow_nil _ _ _ _, Below.refl _ _⟩
    case round =>
      obtain ⟨k, rfl, hk, hown, hB⟩ := hrel
      have hsz := hB.size
      by_cases hkl : k < 64
      · have hst := HSTEP.out k hkl
        have hln := HLL.out k
        have hget := refGet_any (HT2.out.below hB) (k : Int)
        generalize listN m' 0 k = sel at *
        by_cases hkk : k = k0
        · have hb1 : ((k : Int) == (k0 : Int)) = true := by simp [hkk]
          rw [if_pos hkk] at hst
          obtain ⟨y, b, hyb⟩ : ∃ (y : E) (b : Bool), gotV (look (upd m k0 none) (k : Int)) = .tuple #[y.val, .bool b] := ⟨_, _, rfl⟩
          rw [hyb] at hget
          obtain ⟨f, e1, e2, e3, e4⟩ := y
          simp only [E.val, E.arr] at hget
          have HG := Lib.hid hget
          have HN := Lib.hid hst
          have HO := Lib.hid hown
          have hX3 := HX2.out.below hB (by omega)
          have HX3 := Lib.hid hX3
          clear hX3 hget hyb hst hown hkk
          go_wp2_with (first
            | (go_at_call 36; refine HG.out.mono ?_; rintro e w4 ⟨rfl, hb4⟩; obtain ⟨y0, y1, y2, y3, y4, ylt⟩ := ecells (HX3.out.below hb4 (by omega)); have hown0 := (ownsRow_below HO.out hb4).alloc (.cells #[.int .i64 f, .bool e1, .bool e2, .bool e3, .bool e4] 29); have HW4 := Lib.hid hb4)
            | (at_builtin; refine wpList_append_own _ rfl _ _ 33 rfl w2.heap.size 42 i0 _ 6 24 Try.underlying33 hi hz0 hz1 hz2 rfl (by decide) _ _ _ rfl (hown0.alloc _) ⟨w4.heap.size + 1, 0, none⟩ 1 1 (mapCells (k, ⟨xf, x1, x2, x3, x4⟩)) rfl rfl (mapped_new w4 k xf x1 x2 x3 x4 _ _ rfl) (by simp [mapCells, Value.oneCell']) (by unfold maxLen; omega) (by omega) (by have := hb4.size; simp; omega) ?_; intro v' w3 hown' hgrow _))
          have hs4 := HW4.out.size
          go_roundw
          case rel => exact ⟨k + 1, by go_num, by omega, by rw [HN.out]; exact ownM_snoc hown', below_grown (((hB.trans (HW4.out.mono hsz)).alloc (by omega) _).alloc (by simp; omega) _) hgrow (own_block HO.out) (by simp; omega)⟩
          case measure => simp [intOf]; omega
        · have hb1 : ((k : Int) == (k0 : Int)) = false := by simp; omega
          rw [if_neg hkk] at hst
          rw [HGK.out k hkl hkk] at hget
          cases hmk : m k with
          | none =>
            rw [hmk] at hget hst
            simp only [gotV, Option.getD_none, Option.isSome_none, E.val, E.arr, E.zero, List.append_nil] at hget hst
            have HG := Lib.hid hget
            have HN := Lib.hid hst
            have HO := Lib.hid hown
            clear hget hst hown hkk hmk
            go_wp2_with (go_at_call 36; refine HG.out.mono ?_; rintro e w4 ⟨rfl, hb4⟩; have HW4 := Lib.hid hb4)
            have hs4 := HW4.out.size
            go_roundw
            case rel => exact ⟨k + 1, by go_num, by omega, by rw [HN.out]; exact (ownsRow_below HO.out HW4.out).alloc _, (hB.trans (HW4.out.mono hsz)).alloc (by omega) _⟩
            case measure => simp [intOf]; omega
          | some y =>
            rw [hmk] at hget hst
            obtain ⟨f, e1, e2, e3, e4⟩ := y
            simp only [gotV, Option.getD_some, Option.isSome_some, E.val, E.arr] at hget hst
            have HG := Lib.hid hget
            have HN := Lib.hid hst
            have HO := Lib.hid hown
            clear hget hst hown hkk hmk
            go_wp2_with (first
              | (go_at_call 36; refine HG.out.mono ?_; rintro e w4 ⟨rfl, hb4⟩; have hown0 := (ownsRow_below HO.out hb4).alloc (.cells #[.int .i64 f, .bool e1, .bool e2, .bool e3, .bool e4] 29); have HW4 := Lib.hid hb4)
              | (at_builtin; refine wpList_append_own _ rfl _ _ 33 rfl w2.heap.size 42 i0 _ 6 24 Try.underlying33 hi hz0 hz1 hz2 rfl (by decide) _ _ _ rfl (hown0.alloc _) ⟨w4.heap.size + 1, 0, none⟩ 1 1 (mapCells (k, ⟨f, e1, e2, e3, e4⟩)) rfl rfl (mapped_new w4 k f e1 e2 e3 e4 _ _ rfl) (by simp [mapCells, Value.oneCell']) (by unfold maxLen; omega) (by omega) (by have := hb4.size; simp; omega) ?_; intro v' w3 hown' hgrow _))
            have hs4 := HW4.out.size
            go_roundw
            case rel => exact ⟨k + 1, by go_num, by omega, by rw [HN.out]; exact ownM_snoc hown', below_grown (((hB.trans (HW4.out.mono hsz)).alloc (by omega) _).alloc (by simp; omega) _) hgrow (own_block HO.out) (by simp; omega)⟩
            case measure => simp [intOf]; omega
      · have hkk : k = 64 := by omega
        subst hkk
        have hTr : ∃ v, Blk wr rt 52 #[v] := by
          obtain ⟨v, h1, _⟩ := HT2.out
          exact ⟨v, h1.below hB h1.lt⟩
        obtain ⟨v0, hTr⟩ := hTr
        have gt := hTr.frozen 0
        have ct := hTr.cell 0
        simp only [List.getElem?_toArray, List.getElem?_cons_zero] at ct
        have ctl := hTr.lt
        obtain ⟨A', c', rfl, _⟩ := mapsAt_own hown
        have HTR := Lib.hid hTr
        have HO := Lib.hid hown
        have HBR := Lib.hid (HB2.out.thenBelow hB (by omega))
        clear hTr hown hB
        go_wp2
        go_ret
        exact ⟨rfl, RT.stored HTR.out hbr HO.out (by omega), HBR.out.setCell (p := ⟨rt, 0, none⟩) (.inl rfl) _⟩
  · rw [if_neg hmay]
    have hs : setM m p x = m := by unfold setM; rw [if_neg hmay]
    rw [hs]
    have hcases : x.ok = false ∨ x.ok = true ∧ p < 0 ∨ x.ok = true ∧ ¬ p < 0 ∧ 63 < p := by
      unfold may at hmay
      cases hx : x.ok with
      | false => exact .inl rfl
      | true =>
        rw [hx] at hmay
        simp at hmay
        by_cases h0 : p < 0
        · exact .inr (.inl ⟨rfl, h0⟩)
        · exact .inr (.inr ⟨rfl, h0, by have := hmay (by omega); omega⟩)
    have HR := Lib.hid (fun W (hW : Below w.heap.size w W) => h.below hW)
    obtain ⟨xf, x1, x2, x3, x4⟩ := x
    have hbx := (Below.refl w.heap.size w).alloc (Nat.le_refl _) (.cells #[.int .i64 xf, .bool x1, .bool x2, .bool x3, .bool x4] 29)
    have HBX := Lib.hid hbx
    clear hs hmay h hbx
    rcases hcases with hok | ⟨hok, hp⟩ | ⟨hok, hp, hp2⟩
    all_goals
      rw [hok] at HM
      clear hok
      simp only [E.val, E.arr] at HM ⊢
      go_enter Try.func23, Try.ntmps23
      go_wp2_with fail
      refine (HM.out _).mono ?_
      rintro e w1 ⟨rfl, hb1⟩
      have HB1 := Lib.hid (HBX.out.trans (hb1.mono (by simp)))
      clear hb1
      go_wp2
      go_ret
      exact ⟨rfl, HR.out _ HB1.out, But.of_below HB1.out⟩
end Go.Proofs.Ytgdimjcpdndklaa
