/-
  The iterator over steps, walked: round j tells the Cpu behind j + 1 steps, and its trap. Condition: the tables lie as the program's text lays them; a memory lies in blocks of its own.
-/
import Derived.Test.YtoglmemmdolbmaaDoorSeqN
import Derived.Test.YtoglmemmdolbmaaDoorCoQ
namespace Go.Proofs.YtoglmemmdolbmaaDoor
open Go.RowKit Go.Shelf
set_option linter.unusedVariables false
set_option linter.unusedSimpArgs false
attribute [local go_sem] Oper.semAt_some
attribute [local go_sem] run_store_complex
attribute [local irreducible] floatOfInt wz

theorem least_of {p : Nat → Prop} : ∀ n, p n → ∃ k, p k ∧ ∀ j, j < k → ¬ p j := by
  intro n
  induction n using Nat.strongRecOn with
  | ind n ih =>
    intro h
    by_cases hx : ∃ j, j < n ∧ p j
    · obtain ⟨j, hj, hp⟩ := hx
      exact ih j hj hp
    · exact ⟨n, h, fun j hj hp => hx ⟨j, hj, hp⟩⟩
/-- How far a world is from round N, by what is said of rounds. -/
noncomputable def farBy (N : Nat) (Q : Nat → World → Prop) (W : World) : Nat :=
  open Classical in if h : ∃ k, (∃ j, Q j W ∧ k = N - j) ∧ ∀ i, i < k → ¬ ∃ j, Q j W ∧ i = N - j then h.choose else 0
theorem farBy_at {N : Nat} {Q : Nat → World → Prop} {W : World} (h : ∃ j, Q j W) : ∃ j, Q j W ∧ farBy N Q W = N - j := by
  obtain ⟨j, hj⟩ := h
  have hx : ∃ k, (∃ j, Q j W ∧ k = N - j) ∧ ∀ i, i < k → ¬ ∃ j, Q j W ∧ i = N - j := least_of (p := fun k => ∃ j, Q j W ∧ k = N - j) (N - j) ⟨j, hj, rfl⟩
  unfold farBy
  rw [dif_pos hx]
  exact hx.choose_spec.1
theorem farBy_le {N : Nat} {Q : Nat → World → Prop} {W : World} {j : Nat} (h : Q j W) : farBy N Q W ≤ N - j := by
  have hx : ∃ k, (∃ j, Q j W ∧ k = N - j) ∧ ∀ i, i < k → ¬ ∃ j, Q j W ∧ i = N - j := least_of (p := fun k => ∃ j, Q j W ∧ k = N - j) (N - j) ⟨j, h, rfl⟩
  unfold farBy
  rw [dif_pos hx]
  by_cases hlt : N - j < hx.choose
  · exact absurd ⟨j, h, rfl⟩ (hx.choose_spec.2 _ hlt)
  · exact Nat.le_of_not_lt hlt
theorem I.Laid.but {S : Nat → Prop} {w w' : World} (h : I.Laid w) (hb : But S w w') (hS : ¬ S 0) : I.Laid w' := by
  obtain ⟨t, h1⟩ := h
  exact ⟨t, h1.but hb hS⟩
/-- What a round is told. -/
noncomputable def encN (c : Cp) (m : List Int) (j : Nat) : Array Value := #[.agg (stN c m (j + 1)).1.arr, .int .i64 (stN c m (j + 1)).2.1]
/-- No step of the first j has trapped. -/
def freeN (c : Cp) (m : List Int) (j : Nat) : Prop := ∀ i, i < j → (stN c m (i + 1)).2.1 = 0
/-- What lies ahead of round j. -/
structure AtN (g Bc Bm : Nat) (A : Option Addr) (B cap : Nat) (c : Cp) (m : List Int) (j : Nat) (W : World) : Prop where
  l : I.Laid W
  mm : RamAt W g A B cap (stN c m j).2.2
  B : B < W.heap.size
  cc : CpAt W Bc (stN c m j).1
  i : Blk W Bm 66 #[.iface 31 (.pointer (some ⟨g, 0, none⟩))]
  f : freeN c m j
theorem AtN.but {S : Nat → Prop} {g Bc Bm : Nat} {A : Option Addr} {B cap : Nat} {c : Cp} {m : List Int} {j : Nat} {W W' : World} (h : AtN g Bc Bm A B cap c m j W) (hb : But S W W') (hS : ∀ k, S k → k ≠ Bc ∧ k ≠ Bm ∧ k ≠ g ∧ k ≠ B ∧ k ≠ 0) : AtN g Bc Bm A B cap c m j W' :=
  ⟨h.l.but hb (fun x => (hS _ x).2.2.2.2 rfl), h.mm.but hb (fun x => (hS _ x).2.2.1 rfl) (fun x => (hS _ x).2.2.2.1 rfl), Nat.lt_of_lt_of_le h.B hb.size, h.cc.but hb (fun x => (hS _ x).1 rfl), h.i.but hb (fun x => (hS _ x).2.1 rfl), h.f⟩

set_option maxRecDepth 100000 in
set_option maxHeartbeats 16000000 in
theorem steps1_in {g Bc Bm : Nat} {A : Option Addr} {B cap : Nat} (c0 : Cp) (hc0 : c0.Ok) (m0 : List Int) (N l : Nat) (SK : Nat → Prop) (n : Nat) (hn : 3 ≤ n) (W : World) (h : AtN g Bc Bm A B cap c0 m0 0 W)
    (hd1 : Bc ≠ g) (hd2 : Bc ≠ B) (hd3 : Bm ≠ Bc) (hd4 : Bm ≠ B) (hd5 : B ≠ 0) (hd6 : Bc ≠ 0) (hS : ∀ k, SK k → k ≠ Bc ∧ k ≠ Bm ∧ k ≠ g ∧ k ≠ B ∧ k ≠ 0 ∧ k < W.heap.size) :
    SeqN (fun r => r = Bc ∨ r = B) Fence.wide n Tryd.prog 47 #[.pointer (some ⟨Bc, 0, none⟩), .pointer (some ⟨Bm, 0, none⟩)] (encN c0 m0) (fun j W => freeN c0 m0 j ∧ RamAt W g A B cap (stN c0 m0 (j + 1)).2.2) (fun W W' => But SK W W')
      (fun j W => RamAt W g A B cap (stN c0 m0 j).2.2 ∧ ∃ i, j = i + 1 ∧ freeN c0 m0 i ∧ (stN c0 m0 j).2.1 ≠ 0) (fun j W => RamAt W g A B cap (stN c0 m0 j).2.2) N l W := by
  intro J Jx hJ hJx hY h0 hN
  have HJ := Lib.hid hJ
  have HJX := Lib.hid hJx
  have HY := Lib.hid hY
  have H0 := Lib.hid h0
  have HN := Lib.hid hN
  have HA := Lib.hid h
  have HS := Lib.hid hS
  have HC0 := Lib.hid hc0
  clear hJ hJx hY h0 hN h hS hc0
  refine callsIn_of_wp Tryd.func47 rfl trivial ?_ rfl
  simp only [Tryd.ntmps47, List.size_toArray, List.length_cons, List.length_nil, Nat.reduceAdd, Nat.reduceSub, Array.replicate_succ, Array.replicate_zero, List.push_toArray, List.append_toArray, List.nil_append, List.cons_append]
  gi_wp2
  obtain ⟨Q, hQ⟩ : ∃ Q : Nat → World → Prop, Q = fun j wr => J W.heap.size j wr ∧ AtN g Bc Bm A B cap c0 m0 j wr ∧ W.heap.size ≤ wr.heap.size := ⟨_, rfl⟩
  have HQ := Lib.hid hQ
  clear hQ
  gi_loopw [] (fun wr => ∃ j, Q j wr) (fun wr => farBy N Q wr)
  case atStart => exact ⟨0, by rw [HQ.out]; exact ⟨H0.out _, HA.out, Nat.le_refl _⟩⟩
  case round =>
    obtain ⟨j, hqj, hfar⟩ := farBy_at (N := N) hrel
    rw [HQ.out] at hqj
    obtain ⟨hj, ha, hsz⟩ := hqj
    have hjN : j < N := HN.out _ _ _ (Nat.le_refl _) hj
    have HFAR := Lib.hid hfar
    have HJ0 := Lib.hid hj
    have HA0 := Lib.hid ha
    have hok := stN_ok HC0.out (show ∀ x ∈ m0, 0 ≤ x ∧ x ≤ 255 from HA.out.mm.low) j
    have HST := Lib.hid (callsIn_wide.2 (step_any (w := wr) ha.l ha.mm hok.1 ha.B) : CallsIn Fence.wide (n - 1) Tryd.prog 15 _ wr _)
    obtain ⟨x0, x1, x2, x3, x4, x5, x6, x7, x8, x9, x10, xlt⟩ := cp_all ha.cc
    have i0 := ha.i.cell 0
    have ilt := ha.i.lt
    simp only [List.getElem?_toArray, List.getElem?_cons_zero] at i0
    have HSN := Lib.hid (show stepP (stN c0 m0 j).1 (stN c0 m0 j).2.2 = stN c0 m0 (j + 1) from rfl)
    rw [HSN.out] at HST
    clear hrel hj ha hok hfar
    obtain ⟨c1, hc1⟩ : ∃ c1, c1 = (stN c0 m0 (j + 1)).1 := ⟨_, rfl⟩
    obtain ⟨t1, ht1⟩ : ∃ t1, t1 = (stN c0 m0 (j + 1)).2.1 := ⟨_, rfl⟩
    have HST := Lib.hid (show CallsIn Fence.wide (n - 1) Tryd.prog 15 _ wr fun e w' => e = .returned (.tuple #[.agg c1.arr, .int .i64 t1]) ∧ RamAt w' g A B cap (stN c0 m0 (j + 1)).2.2 ∧ But (fun k => k = B) wr w' from by rw [hc1, ht1]; exact HST.out)
    have HC1 := Lib.hid hc1
    have HT1 := Lib.hid ht1
    clear hc1 ht1
    gi_wp2_with (fail)
    refine ⟨trivial, fun _ => by omega, ?_⟩
    refine HST.out.mono ?_
    rintro e W1 ⟨he, hm1, hb1⟩
    dsimp only [Cp.arr] at he
    subst he
    have hn2 := Blk.new W1 28 c1.arr
    have hb2 := hb1.alloc (.cells c1.arr 28)
    have hj2 := (HJ.out W.heap.size).but1 HJ0.out hb2 (.inr rfl)
    have hm2 := hm1.below (bl_new (Below.refl W1.heap.size W1) (.cells c1.arr 28))
    have hs2 : W.heap.size ≤ (W1.alloc (.cells c1.arr 28)).heap.size := by have := hb2.size; omega
    obtain ⟨fn, tmps, assign, body, hy, hR⟩ := HY.out W.heap.size j _ (Nat.le_refl _) hs2 hj2 ⟨HA0.out.f, hm2⟩ hjN
    simp only [encN] at hy
    rw [← HC1.out, ← HT1.out] at hy
    have HR := Lib.hid hR
    have HN2 := Lib.hid hn2
    have HB2 := Lib.hid hb2
    have HM2 := Lib.hid hm2
    have hW1 : wr.heap.size ≤ W1.heap.size := hb1.size
    clear hj2 hm2 hR x0 x1 x2 x3 x4 x5 x6 x7 x8 x9 x10 i0 hm1 hb1 hb2
    unfold Cp.arr at hy hn2
    obtain ⟨x0, x1, x2, x3, x4, x5, x6, x7, x8, x9, x10, xlt2⟩ := row11 hn2
    clear hn2
    have HSZ := Lib.hid hsz
    gi_wp2
    refine ⟨fun _ => by omega, HR.out.mono ?_⟩
    rintro e W3 ⟨hk3, hcase⟩
    have hout : ∀ k, SK k → k < W.heap.size := fun k hk => (HS.out k hk).2.2.2.2.2
    have HM3 := Lib.hid (HM2.out.but hk3 (fun x => (HS.out _ x).2.2.1 rfl) (fun x => (HS.out _ x).2.2.2.1 rfl))
    have HL3 := Lib.hid ((HA0.out.l.but HB2.out (fun x => hd5 x.symm)).but hk3 (fun x => (HS.out _ x).2.2.2.2.1 rfl))
    have HC3 := Lib.hid ((HA0.out.cc.but HB2.out (fun x => hd2 x)).but hk3 (fun x => (HS.out _ x).1 rfl))
    have HI3 := Lib.hid ((HA0.out.i.but HB2.out (fun x => hd4 x)).but hk3 (fun x => (HS.out _ x).2.1 rfl))
    have HN3 := Lib.hid (HN2.out.but hk3 (fun x => by have := hout _ x; omega))
    have HK3 := Lib.hid hk3
    have hs3 : W.heap.size ≤ W3.heap.size := by have := hk3.size; have := HB2.out.size; omega
    have hB3 : B < W3.heap.size := by have := hk3.size; have := HB2.out.size; have := HA0.out.B; omega
    clear x0 x1 x2 x3 x4 x5 x6 x7 x8 x9 x10 xlt xlt2 ilt hk3 hout hy HR HN2 HB2 HM2 HST
    have HB3 := Lib.hid hB3
    have HS3 := Lib.hid hs3
    clear hB3 hs3
    by_cases ht : t1 = 0
    · have HT0 := Lib.hid ht
      subst ht
      rcases hcase with ⟨rfl, hJ3⟩ | ⟨rfl, hJ3⟩
      · have HJ3 := Lib.hid hJ3
        clear hJ3
        obtain ⟨y0, y1, y2, y3, y4, y5, y6, y7, y8, y9, y10, ylt⟩ := row11 (show Blk W3 W1.heap.size 28 #[.int .u32 (c1.r 0), .int .u32 (c1.r 1), .int .u32 (c1.r 2), .int .u32 (c1.r 3), .int .u32 (c1.r 4), .int .u32 (c1.r 5), .int .u32 (c1.r 6), .int .u32 (c1.r 7), .complex .f64 (c1.z 0).1 (c1.z 0).2, .complex .f64 (c1.z 1).1 (c1.z 1).2, .int .u32 c1.pc] from HN3.out)
        obtain ⟨x0, x1, x2, x3, x4, x5, x6, x7, x8, x9, x10, xlt⟩ := cp_all HC3.out
        have bf0 := (HC3.out).frozen 0
        have bf1 := (HC3.out).frozen 1
        have bf2 := (HC3.out).frozen 2
        have bf3 := (HC3.out).frozen 3
        have bf4 := (HC3.out).frozen 4
        have bf5 := (HC3.out).frozen 5
        have bf6 := (HC3.out).frozen 6
        have bf7 := (HC3.out).frozen 7
        have bf8 := (HC3.out).frozen 8
        have bf9 := (HC3.out).frozen 9
        have bf10 := (HC3.out).frozen 10
        gi_wp2
        have hbt := set11_but (S := fun k => k = Bc) (g := Bc) (But.refl _ W3) (.inl rfl) (.int .u32 (c1.r 0)) (.int .u32 (c1.r 1)) (.int .u32 (c1.r 2)) (.int .u32 (c1.r 3)) (.int .u32 (c1.r 4)) (.int .u32 (c1.r 5)) (.int .u32 (c1.r 6)) (.int .u32 (c1.r 7)) (.complex .f64 (c1.z 0).1 (c1.z 0).2) (.complex .f64 (c1.z 1).1 (c1.z 1).2) (.int .u32 c1.pc)
        have hblk := set11_blk HC3.out (.int .u32 (c1.r 0)) (.int .u32 (c1.r 1)) (.int .u32 (c1.r 2)) (.int .u32 (c1.r 3)) (.int .u32 (c1.r 4)) (.int .u32 (c1.r 5)) (.int .u32 (c1.r 6)) (.int .u32 (c1.r 7)) (.complex .f64 (c1.z 0).1 (c1.z 0).2) (.complex .f64 (c1.z 1).1 (c1.z 1).2) (.int .u32 c1.pc)
        have hq := (fun (W4 : World) (hbt : But (fun k => k = Bc) W3 W4) (hblk : CpAt W4 Bc c1) => show Q (j + 1) W4 from by
          rw [HQ.out]
          refine ⟨(HJ.out W.heap.size).but1 HJ3.out hbt (.inl rfl), ⟨HL3.out.but hbt (fun x => hd6 x.symm), HM3.out.but hbt (fun x => hd1 x.symm) (fun x => hd2 x.symm), Nat.lt_of_lt_of_le HB3.out hbt.size, ?_, HI3.out.but hbt (fun x => hd3 x), ?_⟩, Nat.le_trans HS3.out hbt.size⟩
          · rw [← HC1.out]; exact hblk
          · intro i hi
            by_cases hij : i < j
            · exact HA0.out.f i hij
            · obtain rfl : i = j := by omega
              exact HT1.out.symm) _ hbt hblk
        go_roundw
        case rel => exact ⟨j + 1, hq⟩
        case measure =>
          rw [HFAR.out]
          exact Nat.lt_of_le_of_lt (farBy_le hq) (by omega)
      · gi_wp2
        exact bodyPost_ret (results_none rfl _ _ _) rfl ⟨⟨_, rfl⟩, _, Nat.le_refl _, .inr ⟨j + 1, HM3.out, hJ3⟩⟩
    · have htb : (t1 != 0) = true := by simpa using ht
      have HT0 := Lib.hid ht
      clear ht
      rcases hcase with ⟨rfl, hJ3⟩ | ⟨rfl, hJ3⟩
      · gi_wp2
        exact bodyPost_ret (results_none rfl _ _ _) rfl ⟨⟨_, rfl⟩, _, Nat.le_refl _, .inl ⟨j + 1, ⟨HM3.out, j, rfl, HA0.out.f, by rw [← HT1.out]; exact HT0.out⟩, hJ3⟩⟩
      · gi_wp2
        exact bodyPost_ret (results_none rfl _ _ _) rfl ⟨⟨_, rfl⟩, _, Nat.le_refl _, .inr ⟨j + 1, HM3.out, hJ3⟩⟩
theorem steps_in (n : Nat) (c : Cp) (g : Nat) (w : World) :
    CallsIn Fence.wide n Tryd.prog 23 #[.agg c.arr, .iface 31 (.pointer (some ⟨g, 0, none⟩))] w fun e w' => e = .returned (.func (.func 47) #[] #[.pointer (some ⟨w.heap.size, 0, none⟩), .pointer (some ⟨w.heap.size + 1, 0, none⟩)]) ∧ w' = (w.alloc (.cells c.arr 28)).alloc (.cells #[.iface 31 (.pointer (some ⟨g, 0, none⟩))] 66) := by
  refine callsIn_of_wp Tryd.func23 rfl trivial ?_ rfl
  simp only [Tryd.ntmps23, List.size_toArray, List.length_cons, List.length_nil, Nat.reduceAdd, Nat.reduceSub, Array.replicate_succ, Array.replicate_zero, List.push_toArray, List.append_toArray, List.nil_append, List.cons_append]
  gi_wp2
  go_ret
  exact ⟨rfl, rfl⟩
end Go.Proofs.YtoglmemmdolbmaaDoor
