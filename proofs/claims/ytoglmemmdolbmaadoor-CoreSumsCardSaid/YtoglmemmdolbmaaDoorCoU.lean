/-
  The law CoreSums, walked. Condition: the tables lie as the program's text lays them; the words are words.
-/
import Derived.Deep.RegionHeld3
import Derived.Deep.DeepCutAuto
import Derived.Test.YtoglmemmdolbmaaDoorCoU1
import Derived.Test.YtoglmemmdolbmaaDoorIs6
namespace Go.Proofs.YtoglmemmdolbmaaDoor
open Go.RowKit Go.Shelf
set_option linter.unusedVariables false
set_option linter.unusedSimpArgs false
attribute [local go_sem] Oper.semAt_some
attribute [local go_sem] run_store_complex
attribute [local irreducible] floatOfInt wz

/-- Blocks that are kept, each with a Cpu. -/
structure KB (w : World) (l : List (Nat × Cp)) (W : World) : Prop where
  b : Below w.heap.size w W
  k : ∀ x ∈ l, CpAt W x.1 x.2
theorem KB.below {w W W' : World} {l : List (Nat × Cp)} (h : KB w l W) (hb : Below W.heap.size W W') : KB w l W' := ⟨h.b.trans (hb.mono h.b.size), fun x hx => (h.k x hx).below hb (h.k x hx).lt⟩
theorem KB.but {w W W' : World} {l : List (Nat × Cp)} {B : Nat} (h : KB w l W) (hb : But (fun k => k = B) W W') (hn : ∀ x ∈ l, x.1 ≠ B) (hw : w.heap.size ≤ B) : KB w l W' :=
  ⟨h.b.trans (hb.below (B := w.heap.size) (fun k hk => by omega) h.b.size), fun x hx => (h.k x hx).but hb (hn x hx)⟩

theorem i16_in (n : Int) : -32768 ≤ IntKind.i16.wrap n ∧ IntKind.i16.wrap n ≤ 32767 ∧ IntKind.i16.wrap n % 65536 = n % 65536 := by
  have e : IntKind.i16.wrap n = (n + 32768) % 65536 - 32768 := by
    simp [IntKind.wrap, IntKind.bits, IntKind.signed]
    try omega
  rw [e]
  omega

set_option maxRecDepth 100000 in
set_option maxHeartbeats 16000000 in
theorem sumsLaw_any {w : World} (hG : I.Ground w) (a b : Int) (ha : 0 ≤ a ∧ a ≤ 4294967295) (hb : 0 ≤ b ∧ b ≤ 4294967295) : Calls Tryd.prog 3 #[.int .u32 a, .int .u32 b] w fun e w' => e = .returned (.bool true) ∧ Below w.heap.size w w' := by
  have Hp1 := Lib.hid (fun W (hW : Below w.heap.size w W) => show Calls Tryd.prog 10 #[.string ⟨#[97, 100, 100, 32, 49, 32, 50, 10, 115, 117, 98, 32, 49, 32, 50, 10]⟩] W fun e w' => NewRam W.heap.size (memOf p1) e w' ∧ Below W.heap.size W w' from
    ramText (hG.below hW) _ (by decide) (by decide +kernel) (by decide +kernel) (by decide +kernel))
  have Hp2 := Lib.hid (fun W (hW : Below w.heap.size w W) => show Calls Tryd.prog 10 #[.string ⟨#[120, 111, 114, 32, 49, 32, 50, 10, 120, 111, 114, 32, 49, 32, 50, 10]⟩] W fun e w' => NewRam W.heap.size (memOf p2) e w' ∧ Below W.heap.size W w' from
    ramText (hG.below hW) _ (by decide) (by decide +kernel) (by decide +kernel) (by decide +kernel))
  have Hp3 := Lib.hid (fun W (hW : Below w.heap.size w W) => show Calls Tryd.prog 10 #[.string ⟨#[109, 111, 118, 32, 51, 32, 49, 10, 97, 110, 100, 32, 51, 32, 50, 10, 109, 111, 118, 32, 52, 32, 49, 10, 111, 114, 32, 52, 32, 50, 10, 97, 100, 100, 32, 51, 32, 52, 10]⟩] W fun e w' => NewRam W.heap.size (memOf p3) e w' ∧ Below W.heap.size W w' from
    ramText (hG.below hW) _ (by decide) (by decide +kernel) (by decide +kernel) (by decide +kernel))
  have Hp5 := Lib.hid (fun W (hW : Below w.heap.size w W) => show Calls Tryd.prog 10 #[.string ⟨#[109, 111, 118, 32, 51, 32, 49, 10, 115, 108, 116, 32, 51, 32, 50, 10, 109, 111, 118, 32, 52, 32, 50, 10, 115, 108, 116, 32, 52, 32, 49, 10, 109, 111, 118, 32, 53, 32, 49, 10, 115, 101, 113, 32, 53, 32, 50, 10, 97, 100, 100, 32, 51, 32, 52, 10, 97, 100, 100, 32, 51, 32, 53, 10]⟩] W fun e w' => NewRam W.heap.size (memOf p5) e w' ∧ Below W.heap.size W w' from
    ramText (hG.below hW) _ (by decide) (by decide +kernel) (by decide +kernel) (by decide +kernel))
  have HR := Lib.hid (fun W (hW : Below w.heap.size w W) g A B cap m (hM : RamAt W g A B cap m) (hB : B < W.heap.size) (hw : w.heap.size ≤ B) (c : Cp) (hc : c.Ok) most (hm : most ≤ 9223372036854775807) =>
    run_any (hG.laid.below hW) hM hB (by have := hG.laid.klt; omega) c hc most hm)
  have HA := Lib.hid (fun W (hW : Below w.heap.size w W) => alive_any (hG.below hW))
  have HOK := Lib.hid (cpuAB_ok ha hb)
  obtain ⟨c1, ra, rb⟩ := sum1 a b ha hb
  obtain ⟨c2, rc, rd⟩ := sum2 a b ha hb
  obtain ⟨c3, re1, rf⟩ := sum3 a b ha hb
  obtain ⟨c5, rg, rh⟩ := sum5 a b ha hb
  have RA := Lib.hid ra
  have RC := Lib.hid rc
  have RE := Lib.hid re1
  have RG := Lib.hid rg
  have RB := Lib.hid rb
  have RD := Lib.hid rd
  have RF := Lib.hid rf
  have RH := Lib.hid rh
  have HGR := Lib.hid (fun (W : World) (hW : Below w.heap.size w W) => hG.below hW)
  have HAR := Lib.hid ha
  have HBR := Lib.hid hb
  clear ra rb rc rd re1 rf rg rh hG ha hb
  go_enter Tryd.func3, Tryd.ntmps3
  go_wp2_with (fail)
  refine (HA.out _ (Below.refl _ _)).mono ?_
  rintro e W1 ⟨rfl, hb1⟩
  have hkb : KB w [(W1.heap.size, cpuAB a b)] (W1.alloc (.cells #[.int .u32 0, .int .u32 a, .int .u32 b, .int .u32 0, .int .u32 0, .int .u32 0, .int .u32 0, .int .u32 0, .complex .f64 0 0, .complex .f64 0 0, .int .u32 0] 28)) :=
    ⟨bl_new hb1 _, fun x hx => by
      rcases List.mem_singleton.1 hx with rfl
      exact Blk.new W1 28 (cpuAB a b).arr⟩
  clear hb1
  go_upto_region 3 with (fail)
  generalize W1.alloc (.cells #[.int .u32 0, .int .u32 a, .int .u32 b, .int .u32 0, .int .u32 0, .int .u32 0, .int .u32 0, .int .u32 0, .complex .f64 0 0, .complex .f64 0 0, .int .u32 0] 28) = V0 at *
  generalize W1.heap.size = g6 at *
  have cab := Lib.hid HOK.out
  go_cut [7, 8, 9] from 31 to 38 (fun pp nn tt wx => nn = .int .i64 2 ∧ tt = .int .i64 0 ∧ ∃ gx, pp = .pointer (some ⟨gx, 0, none⟩) ∧ KB w ((gx, c1) :: [(g6, (cpuAB a b))]) wx)
  case first =>
    rename_i hj hm
    refine wp_region_held_drew (S := fun W => KB w [(g6, (cpuAB a b))] W) (by kernel_rfl) (hkb.below (Below.refl _ _).drew) (fun hS => ?_)
    generalize V0.drew = Wd at *
    refine wpAnyH_take (i := 0) (v := ?_) rfl (by kernel_rfl) (by kernel_rfl) (by kernel_rfl) (fun _ _ _ h => h) (Or.inl ⟨by kernel_rfl, ?_⟩) hS ?_
    rotate_left 1
    · intro w hT
      obtain ⟨x0, x1, x2, x3, x4, x5, x6, x7, x8, x9, x10, xlt⟩ := cp_all (hT.k (g6, (cpuAB a b)) (by simp))
      go_simp
      all_goals with_reducible rfl
    refine wpAnyH_ready (rs := [1, 8]) (by kernel_rfl) (by simp) ?_
    refine AllReadyH.cons rfl (fun K hK => ?_) (AllReadyH.cons rfl (fun K hK => ?_) AllReadyH.nil)
    · skip
      go_simp
      refine (Hp1.out _ hS.b).mono ?_
      rintro e W1 ⟨⟨g, A, B, cap, rfl, hM, hg, hB, hBl⟩, hb⟩
      have hBw : w.heap.size ≤ B := Nat.le_trans hS.b.size hB
      have hnB : ∀ x ∈ [(g6, (cpuAB a b))], x.1 ≠ B := fun x hx => Nat.ne_of_lt (Nat.lt_of_lt_of_le (hS.k x hx).lt hB)
      refine hK.out _ _ (hS.below hb) (fun hS => ?_)
      clear hK K hb hg hB
      refine wpAnyH_take (i := 2) (v := ?_) rfl (by kernel_rfl) (by kernel_rfl) (by kernel_rfl) (fun _ _ _ h => h) (Or.inl ⟨by kernel_rfl, ?_⟩) hS ?_
      rotate_left 1
      · intro w hT
        go_simp
        all_goals with_reducible rfl
      refine wpAnyH_ready (rs := [3, 8]) (by kernel_rfl) (by simp) ?_
      refine AllReadyH.cons rfl (fun K hK => ?_) (AllReadyH.cons rfl (fun K hK => ?_) AllReadyH.nil)
      · skip
        have hrun := HR.out W1 hS.b g A B cap _ hM hBl hBw (cpuAB a b) HOK.out 2 (by decide)
        rw [show ((2 : Int)).toNat = 2 from rfl, RA.out] at hrun
        have HRUN := Lib.hid (show Calls Tryd.prog 9 #[.agg #[.int .u32 ((cpuAB a b).r 0), .int .u32 ((cpuAB a b).r 1), .int .u32 ((cpuAB a b).r 2), .int .u32 ((cpuAB a b).r 3), .int .u32 ((cpuAB a b).r 4), .int .u32 ((cpuAB a b).r 5), .int .u32 ((cpuAB a b).r 6), .int .u32 ((cpuAB a b).r 7), .complex .f64 ((cpuAB a b).z 0).1 ((cpuAB a b).z 0).2, .complex .f64 ((cpuAB a b).z 1).1 ((cpuAB a b).z 1).2, .int .u32 (cpuAB a b).pc], .iface 31 (.pointer (some ⟨g, 0, none⟩)), .int .i64 2] W1 fun e w' => e = .returned (.tuple #[.agg #[.int .u32 (c1.r 0), .int .u32 (c1.r 1), .int .u32 (c1.r 2), .int .u32 (c1.r 3), .int .u32 (c1.r 4), .int .u32 (c1.r 5), .int .u32 (c1.r 6), .int .u32 (c1.r 7), .complex .f64 (c1.z 0).1 (c1.z 0).2, .complex .f64 (c1.z 1).1 (c1.z 1).2, .int .u32 c1.pc], .int .i64 2, .int .i64 0]) ∧ RamAt w' g A B cap _ ∧ But (fun k => k = B) W1 w' from hrun)
        clear hrun
        go_simp
        refine HRUN.out.mono ?_
        rintro e W2 ⟨rfl, hm2, hb2⟩
        refine hK.out _ _ (hS.but hb2 hnB hBw) (fun hS => ?_)
        clear hK K hm2 hb2 HRUN hM hBl hBw hnB
        refine wpAnyH_take (i := 4) (v := ?_) rfl (by kernel_rfl) (by kernel_rfl) (by kernel_rfl) (fun _ _ _ h => h) (Or.inl ⟨by kernel_rfl, ?_⟩) hS ?_
        rotate_left 1
        · intro w hT
          go_simp
          all_goals with_reducible rfl
        refine wpAnyH_take (i := 5) (v := ?_) rfl (by kernel_rfl) (by kernel_rfl) (by kernel_rfl) (fun _ _ _ h => h) (Or.inl ⟨by kernel_rfl, ?_⟩) hS ?_
        rotate_left 1
        · intro w hT
          go_simp
          all_goals with_reducible rfl
        refine wpAnyH_take (i := 6) (v := ?_) rfl (by kernel_rfl) (by kernel_rfl) (by kernel_rfl) (fun _ _ _ h => h) (Or.inl ⟨by kernel_rfl, ?_⟩) hS ?_
        rotate_left 1
        · intro w hT
          go_simp
          all_goals with_reducible rfl
        refine wpAnyH_take (i := 7) (v := ?_) rfl (by kernel_rfl) (by kernel_rfl) (by kernel_rfl) (fun _ _ _ h => h) (Or.inl ⟨by kernel_rfl, ?_⟩) hS ?_
        rotate_left 1
        · intro w hT
          go_simp
          all_goals with_reducible rfl
        refine wpAnyH_ready (rs := [8]) (by kernel_rfl) (by simp) ?_
        refine AllReadyH.cons rfl (fun K hK => ?_) AllReadyH.nil
        have hgx := Blk.new W2 28 #[.int .u32 0, .int .u32 0, .int .u32 0, .int .u32 0, .int .u32 0, .int .u32 0, .int .u32 0, .int .u32 0, .complex .f64 0 0, .complex .f64 0 0, .int .u32 0]
        have hbx := bl_new (Below.refl W2.heap.size W2) (.cells #[.int .u32 0, .int .u32 0, .int .u32 0, .int .u32 0, .int .u32 0, .int .u32 0, .int .u32 0, .int .u32 0, .complex .f64 0 0, .complex .f64 0 0, .int .u32 0] 28)
        have hgl : ∀ x ∈ [(g6, (cpuAB a b))], x.1 ≠ W2.heap.size := fun x hx => Nat.ne_of_lt (hS.k x hx).lt
        have hgw : w.heap.size ≤ W2.heap.size := hS.b.size
        go_simp
        refine hK.out _ _ (hS.below hbx) (fun hS => ?_)
        clear hK K hbx
        generalize hwa : W2.alloc (.cells #[.int .u32 0, .int .u32 0, .int .u32 0, .int .u32 0, .int .u32 0, .int .u32 0, .int .u32 0, .int .u32 0, .complex .f64 0 0, .complex .f64 0 0, .int .u32 0] 28) = Wa at *
        generalize W2.heap.size = gx at *
        refine wpAnyH_ready (rs := [9]) (by kernel_rfl) (by simp) ?_
        refine AllReadyH.cons rfl (fun K hK => ?_) AllReadyH.nil
        have r0 := (row11 hgx).1
        have r1 := (row11 hgx).2.1
        have r2 := (row11 hgx).2.2.1
        have r3 := (row11 hgx).2.2.2.1
        have r4 := (row11 hgx).2.2.2.2.1
        have r5 := (row11 hgx).2.2.2.2.2.1
        have r6 := (row11 hgx).2.2.2.2.2.2.1
        have r7 := (row11 hgx).2.2.2.2.2.2.2.1
        have r8 := (row11 hgx).2.2.2.2.2.2.2.2.1
        have r9 := (row11 hgx).2.2.2.2.2.2.2.2.2.1
        have r10 := (row11 hgx).2.2.2.2.2.2.2.2.2.2.1
        have rlt := (row11 hgx).2.2.2.2.2.2.2.2.2.2.2
        have rf0 := hgx.frozen 0
        have rf1 := hgx.frozen 1
        have rf2 := hgx.frozen 2
        have rf3 := hgx.frozen 3
        have rf4 := hgx.frozen 4
        have rf5 := hgx.frozen 5
        have rf6 := hgx.frozen 6
        have rf7 := hgx.frozen 7
        have rf8 := hgx.frozen 8
        have rf9 := hgx.frozen 9
        have rf10 := hgx.frozen 10
        have hbt := set11_but (S := fun k => k = gx) (g := gx) (But.refl _ Wa) (.inl rfl) (.int .u32 (c1.r 0)) (.int .u32 (c1.r 1)) (.int .u32 (c1.r 2)) (.int .u32 (c1.r 3)) (.int .u32 (c1.r 4)) (.int .u32 (c1.r 5)) (.int .u32 (c1.r 6)) (.int .u32 (c1.r 7)) (.complex .f64 (c1.z 0).1 (c1.z 0).2) (.complex .f64 (c1.z 1).1 (c1.z 1).2) (.int .u32 c1.pc)
        have hblk := set11_blk hgx (.int .u32 (c1.r 0)) (.int .u32 (c1.r 1)) (.int .u32 (c1.r 2)) (.int .u32 (c1.r 3)) (.int .u32 (c1.r 4)) (.int .u32 (c1.r 5)) (.int .u32 (c1.r 6)) (.int .u32 (c1.r 7)) (.complex .f64 (c1.z 0).1 (c1.z 0).2) (.complex .f64 (c1.z 1).1 (c1.z 1).2) (.int .u32 c1.pc)
        go_simp
        refine hK.out _ _ (hS.but hbt hgl hgw) (fun hS => ?_)
        clear hK K r0 r1 r2 r3 r4 r5 r6 r7 r8 r9 r10 rf0 rf1 rf2 rf3 rf4 rf5 rf6 rf7 rf8 rf9 rf10
        refine wpAnyH_take (i := 10) (v := ?_) rfl (by kernel_rfl) (by kernel_rfl) (by kernel_rfl) (fun _ _ _ h => h) (Or.inl ⟨by kernel_rfl, ?_⟩) hS ?_
        rotate_left 1
        · intro w hT
          go_simp
          all_goals with_reducible rfl
        refine wpAnyH_take (i := 11) (v := ?_) rfl (by kernel_rfl) (by kernel_rfl) (by kernel_rfl) (fun _ _ _ h => h) (Or.inl ⟨by kernel_rfl, ?_⟩) hS ?_
        rotate_left 1
        · intro w hT
          go_simp
          all_goals with_reducible rfl
        refine wpAnyH_done (by kernel_rfl) ?_ _
        go_simp
        refine hm _ _ (Met.intro (hj _ _ ?_))
        repeat apply Exists.intro
        refine ⟨⟨rfl, rfl, gx, rfl, ⟨hS.b, fun x hx => ?_⟩⟩, rfl⟩
        rcases List.mem_cons.1 hx with rfl | hx
        · exact hblk
        · exact hS.k x hx
      · skip
        have hgx := Blk.new W1 28 #[.int .u32 0, .int .u32 0, .int .u32 0, .int .u32 0, .int .u32 0, .int .u32 0, .int .u32 0, .int .u32 0, .complex .f64 0 0, .complex .f64 0 0, .int .u32 0]
        have hbx := bl_new (Below.refl W1.heap.size W1) (.cells #[.int .u32 0, .int .u32 0, .int .u32 0, .int .u32 0, .int .u32 0, .int .u32 0, .int .u32 0, .int .u32 0, .complex .f64 0 0, .complex .f64 0 0, .int .u32 0] 28)
        have hgl : ∀ x ∈ [(g6, (cpuAB a b))], x.1 ≠ W1.heap.size := fun x hx => Nat.ne_of_lt (hS.k x hx).lt
        have hgw : w.heap.size ≤ W1.heap.size := hS.b.size
        have hMa := hM.below hbx
        have hgB : W1.heap.size ≠ B := Nat.ne_of_gt hBl
        have hBla := Nat.lt_of_lt_of_le hBl hbx.size
        clear hM hBl
        go_simp
        refine hK.out _ _ (hS.below hbx) (fun hS => ?_)
        clear hK K hbx
        generalize hwa : W1.alloc (.cells #[.int .u32 0, .int .u32 0, .int .u32 0, .int .u32 0, .int .u32 0, .int .u32 0, .int .u32 0, .int .u32 0, .complex .f64 0 0, .complex .f64 0 0, .int .u32 0] 28) = Wa at *
        generalize W1.heap.size = gx at *
        refine wpAnyH_ready (rs := [3]) (by kernel_rfl) (by simp) ?_
        refine AllReadyH.cons rfl (fun K hK => ?_) AllReadyH.nil
        have hrun := HR.out Wa hS.b g A B cap _ hMa hBla hBw (cpuAB a b) HOK.out 2 (by decide)
        rw [show ((2 : Int)).toNat = 2 from rfl, RA.out] at hrun
        have HRUN := Lib.hid (show Calls Tryd.prog 9 #[.agg #[.int .u32 ((cpuAB a b).r 0), .int .u32 ((cpuAB a b).r 1), .int .u32 ((cpuAB a b).r 2), .int .u32 ((cpuAB a b).r 3), .int .u32 ((cpuAB a b).r 4), .int .u32 ((cpuAB a b).r 5), .int .u32 ((cpuAB a b).r 6), .int .u32 ((cpuAB a b).r 7), .complex .f64 ((cpuAB a b).z 0).1 ((cpuAB a b).z 0).2, .complex .f64 ((cpuAB a b).z 1).1 ((cpuAB a b).z 1).2, .int .u32 (cpuAB a b).pc], .iface 31 (.pointer (some ⟨g, 0, none⟩)), .int .i64 2] Wa fun e w' => e = .returned (.tuple #[.agg #[.int .u32 (c1.r 0), .int .u32 (c1.r 1), .int .u32 (c1.r 2), .int .u32 (c1.r 3), .int .u32 (c1.r 4), .int .u32 (c1.r 5), .int .u32 (c1.r 6), .int .u32 (c1.r 7), .complex .f64 (c1.z 0).1 (c1.z 0).2, .complex .f64 (c1.z 1).1 (c1.z 1).2, .int .u32 c1.pc], .int .i64 2, .int .i64 0]) ∧ RamAt w' g A B cap _ ∧ But (fun k => k = B) Wa w' from hrun)
        clear hrun
        go_simp
        refine HRUN.out.mono ?_
        rintro e W2 ⟨rfl, hm2, hb2⟩
        have hgx := hgx.but hb2 hgB
        refine hK.out _ _ (hS.but hb2 hnB hBw) (fun hS => ?_)
        clear hK K hm2 hb2 HRUN hMa hBla hBw hnB
        refine wpAnyH_take (i := 4) (v := ?_) rfl (by kernel_rfl) (by kernel_rfl) (by kernel_rfl) (fun _ _ _ h => h) (Or.inl ⟨by kernel_rfl, ?_⟩) hS ?_
        rotate_left 1
        · intro w hT
          go_simp
          all_goals with_reducible rfl
        refine wpAnyH_take (i := 5) (v := ?_) rfl (by kernel_rfl) (by kernel_rfl) (by kernel_rfl) (fun _ _ _ h => h) (Or.inl ⟨by kernel_rfl, ?_⟩) hS ?_
        rotate_left 1
        · intro w hT
          go_simp
          all_goals with_reducible rfl
        refine wpAnyH_take (i := 6) (v := ?_) rfl (by kernel_rfl) (by kernel_rfl) (by kernel_rfl) (fun _ _ _ h => h) (Or.inl ⟨by kernel_rfl, ?_⟩) hS ?_
        rotate_left 1
        · intro w hT
          go_simp
          all_goals with_reducible rfl
        refine wpAnyH_take (i := 7) (v := ?_) rfl (by kernel_rfl) (by kernel_rfl) (by kernel_rfl) (fun _ _ _ h => h) (Or.inl ⟨by kernel_rfl, ?_⟩) hS ?_
        rotate_left 1
        · intro w hT
          go_simp
          all_goals with_reducible rfl
        refine wpAnyH_ready (rs := [9]) (by kernel_rfl) (by simp) ?_
        refine AllReadyH.cons rfl (fun K hK => ?_) AllReadyH.nil
        have r0 := (row11 hgx).1
        have r1 := (row11 hgx).2.1
        have r2 := (row11 hgx).2.2.1
        have r3 := (row11 hgx).2.2.2.1
        have r4 := (row11 hgx).2.2.2.2.1
        have r5 := (row11 hgx).2.2.2.2.2.1
        have r6 := (row11 hgx).2.2.2.2.2.2.1
        have r7 := (row11 hgx).2.2.2.2.2.2.2.1
        have r8 := (row11 hgx).2.2.2.2.2.2.2.2.1
        have r9 := (row11 hgx).2.2.2.2.2.2.2.2.2.1
        have r10 := (row11 hgx).2.2.2.2.2.2.2.2.2.2.1
        have rlt := (row11 hgx).2.2.2.2.2.2.2.2.2.2.2
        have rf0 := hgx.frozen 0
        have rf1 := hgx.frozen 1
        have rf2 := hgx.frozen 2
        have rf3 := hgx.frozen 3
        have rf4 := hgx.frozen 4
        have rf5 := hgx.frozen 5
        have rf6 := hgx.frozen 6
        have rf7 := hgx.frozen 7
        have rf8 := hgx.frozen 8
        have rf9 := hgx.frozen 9
        have rf10 := hgx.frozen 10
        have hbt := set11_but (S := fun k => k = gx) (g := gx) (But.refl _ W2) (.inl rfl) (.int .u32 (c1.r 0)) (.int .u32 (c1.r 1)) (.int .u32 (c1.r 2)) (.int .u32 (c1.r 3)) (.int .u32 (c1.r 4)) (.int .u32 (c1.r 5)) (.int .u32 (c1.r 6)) (.int .u32 (c1.r 7)) (.complex .f64 (c1.z 0).1 (c1.z 0).2) (.complex .f64 (c1.z 1).1 (c1.z 1).2) (.int .u32 c1.pc)
        have hblk := set11_blk hgx (.int .u32 (c1.r 0)) (.int .u32 (c1.r 1)) (.int .u32 (c1.r 2)) (.int .u32 (c1.r 3)) (.int .u32 (c1.r 4)) (.int .u32 (c1.r 5)) (.int .u32 (c1.r 6)) (.int .u32 (c1.r 7)) (.complex .f64 (c1.z 0).1 (c1.z 0).2) (.complex .f64 (c1.z 1).1 (c1.z 1).2) (.int .u32 c1.pc)
        go_simp
        refine hK.out _ _ (hS.but hbt hgl hgw) (fun hS => ?_)
        clear hK K r0 r1 r2 r3 r4 r5 r6 r7 r8 r9 r10 rf0 rf1 rf2 rf3 rf4 rf5 rf6 rf7 rf8 rf9 rf10
        refine wpAnyH_take (i := 10) (v := ?_) rfl (by kernel_rfl) (by kernel_rfl) (by kernel_rfl) (fun _ _ _ h => h) (Or.inl ⟨by kernel_rfl, ?_⟩) hS ?_
        rotate_left 1
        · intro w hT
          go_simp
          all_goals with_reducible rfl
        refine wpAnyH_take (i := 11) (v := ?_) rfl (by kernel_rfl) (by kernel_rfl) (by kernel_rfl) (fun _ _ _ h => h) (Or.inl ⟨by kernel_rfl, ?_⟩) hS ?_
        rotate_left 1
        · intro w hT
          go_simp
          all_goals with_reducible rfl
        refine wpAnyH_done (by kernel_rfl) ?_ _
        go_simp
        refine hm _ _ (Met.intro (hj _ _ ?_))
        repeat apply Exists.intro
        refine ⟨⟨rfl, rfl, gx, rfl, ⟨hS.b, fun x hx => ?_⟩⟩, rfl⟩
        rcases List.mem_cons.1 hx with rfl | hx
        · exact hblk
        · exact hS.k x hx
    · skip
      have hgx := Blk.new Wd 28 #[.int .u32 0, .int .u32 0, .int .u32 0, .int .u32 0, .int .u32 0, .int .u32 0, .int .u32 0, .int .u32 0, .complex .f64 0 0, .complex .f64 0 0, .int .u32 0]
      have hbx := bl_new (Below.refl Wd.heap.size Wd) (.cells #[.int .u32 0, .int .u32 0, .int .u32 0, .int .u32 0, .int .u32 0, .int .u32 0, .int .u32 0, .int .u32 0, .complex .f64 0 0, .complex .f64 0 0, .int .u32 0] 28)
      have hgl : ∀ x ∈ [(g6, (cpuAB a b))], x.1 ≠ Wd.heap.size := fun x hx => Nat.ne_of_lt (hS.k x hx).lt
      have hgw : w.heap.size ≤ Wd.heap.size := hS.b.size
      go_simp
      refine hK.out _ _ (hS.below hbx) (fun hS => ?_)
      clear hK K hbx
      generalize hwa : Wd.alloc (.cells #[.int .u32 0, .int .u32 0, .int .u32 0, .int .u32 0, .int .u32 0, .int .u32 0, .int .u32 0, .int .u32 0, .complex .f64 0 0, .complex .f64 0 0, .int .u32 0] 28) = Wa at *
      generalize Wd.heap.size = gx at *
      refine wpAnyH_ready (rs := [1]) (by kernel_rfl) (by simp) ?_
      refine AllReadyH.cons rfl (fun K hK => ?_) AllReadyH.nil
      go_simp
      refine (Hp1.out _ hS.b).mono ?_
      rintro e W1 ⟨⟨g, A, B, cap, rfl, hM, hg, hB, hBl⟩, hb⟩
      have hBw : w.heap.size ≤ B := Nat.le_trans hS.b.size hB
      have hnB : ∀ x ∈ [(g6, (cpuAB a b))], x.1 ≠ B := fun x hx => Nat.ne_of_lt (Nat.lt_of_lt_of_le (hS.k x hx).lt hB)
      have hgB : gx ≠ B := Nat.ne_of_lt (Nat.lt_of_lt_of_le hgx.lt hB)
      have hgx := hgx.below hb hgx.lt
      refine hK.out _ _ (hS.below hb) (fun hS => ?_)
      clear hK K hb hg hB
      refine wpAnyH_take (i := 2) (v := ?_) rfl (by kernel_rfl) (by kernel_rfl) (by kernel_rfl) (fun _ _ _ h => h) (Or.inl ⟨by kernel_rfl, ?_⟩) hS ?_
      rotate_left 1
      · intro w hT
        go_simp
        all_goals with_reducible rfl
      refine wpAnyH_ready (rs := [3]) (by kernel_rfl) (by simp) ?_
      refine AllReadyH.cons rfl (fun K hK => ?_) AllReadyH.nil
      have hrun := HR.out W1 hS.b g A B cap _ hM hBl hBw (cpuAB a b) HOK.out 2 (by decide)
      rw [show ((2 : Int)).toNat = 2 from rfl, RA.out] at hrun
      have HRUN := Lib.hid (show Calls Tryd.prog 9 #[.agg #[.int .u32 ((cpuAB a b).r 0), .int .u32 ((cpuAB a b).r 1), .int .u32 ((cpuAB a b).r 2), .int .u32 ((cpuAB a b).r 3), .int .u32 ((cpuAB a b).r 4), .int .u32 ((cpuAB a b).r 5), .int .u32 ((cpuAB a b).r 6), .int .u32 ((cpuAB a b).r 7), .complex .f64 ((cpuAB a b).z 0).1 ((cpuAB a b).z 0).2, .complex .f64 ((cpuAB a b).z 1).1 ((cpuAB a b).z 1).2, .int .u32 (cpuAB a b).pc], .iface 31 (.pointer (some ⟨g, 0, none⟩)), .int .i64 2] W1 fun e w' => e = .returned (.tuple #[.agg #[.int .u32 (c1.r 0), .int .u32 (c1.r 1), .int .u32 (c1.r 2), .int .u32 (c1.r 3), .int .u32 (c1.r 4), .int .u32 (c1.r 5), .int .u32 (c1.r 6), .int .u32 (c1.r 7), .complex .f64 (c1.z 0).1 (c1.z 0).2, .complex .f64 (c1.z 1).1 (c1.z 1).2, .int .u32 c1.pc], .int .i64 2, .int .i64 0]) ∧ RamAt w' g A B cap _ ∧ But (fun k => k = B) W1 w' from hrun)
      clear hrun
      go_simp
      refine HRUN.out.mono ?_
      rintro e W2 ⟨rfl, hm2, hb2⟩
      have hgx := hgx.but hb2 hgB
      refine hK.out _ _ (hS.but hb2 hnB hBw) (fun hS => ?_)
      clear hK K hm2 hb2 HRUN hM hBl hBw hnB
      refine wpAnyH_take (i := 4) (v := ?_) rfl (by kernel_rfl) (by kernel_rfl) (by kernel_rfl) (fun _ _ _ h => h) (Or.inl ⟨by kernel_rfl, ?_⟩) hS ?_
      rotate_left 1
      · intro w hT
        go_simp
        all_goals with_reducible rfl
      refine wpAnyH_take (i := 5) (v := ?_) rfl (by kernel_rfl) (by kernel_rfl) (by kernel_rfl) (fun _ _ _ h => h) (Or.inl ⟨by kernel_rfl, ?_⟩) hS ?_
      rotate_left 1
      · intro w hT
        go_simp
        all_goals with_reducible rfl
      refine wpAnyH_take (i := 6) (v := ?_) rfl (by kernel_rfl) (by kernel_rfl) (by kernel_rfl) (fun _ _ _ h => h) (Or.inl ⟨by kernel_rfl, ?_⟩) hS ?_
      rotate_left 1
      · intro w hT
        go_simp
        all_goals with_reducible rfl
      refine wpAnyH_take (i := 7) (v := ?_) rfl (by kernel_rfl) (by kernel_rfl) (by kernel_rfl) (fun _ _ _ h => h) (Or.inl ⟨by kernel_rfl, ?_⟩) hS ?_
      rotate_left 1
      · intro w hT
        go_simp
        all_goals with_reducible rfl
      refine wpAnyH_ready (rs := [9]) (by kernel_rfl) (by simp) ?_
      refine AllReadyH.cons rfl (fun K hK => ?_) AllReadyH.nil
      have r0 := (row11 hgx).1
      have r1 := (row11 hgx).2.1
      have r2 := (row11 hgx).2.2.1
      have r3 := (row11 hgx).2.2.2.1
      have r4 := (row11 hgx).2.2.2.2.1
      have r5 := (row11 hgx).2.2.2.2.2.1
      have r6 := (row11 hgx).2.2.2.2.2.2.1
      have r7 := (row11 hgx).2.2.2.2.2.2.2.1
      have r8 := (row11 hgx).2.2.2.2.2.2.2.2.1
      have r9 := (row11 hgx).2.2.2.2.2.2.2.2.2.1
      have r10 := (row11 hgx).2.2.2.2.2.2.2.2.2.2.1
      have rlt := (row11 hgx).2.2.2.2.2.2.2.2.2.2.2
      have rf0 := hgx.frozen 0
      have rf1 := hgx.frozen 1
      have rf2 := hgx.frozen 2
      have rf3 := hgx.frozen 3
      have rf4 := hgx.frozen 4
      have rf5 := hgx.frozen 5
      have rf6 := hgx.frozen 6
      have rf7 := hgx.frozen 7
      have rf8 := hgx.frozen 8
      have rf9 := hgx.frozen 9
      have rf10 := hgx.frozen 10
      have hbt := set11_but (S := fun k => k = gx) (g := gx) (But.refl _ W2) (.inl rfl) (.int .u32 (c1.r 0)) (.int .u32 (c1.r 1)) (.int .u32 (c1.r 2)) (.int .u32 (c1.r 3)) (.int .u32 (c1.r 4)) (.int .u32 (c1.r 5)) (.int .u32 (c1.r 6)) (.int .u32 (c1.r 7)) (.complex .f64 (c1.z 0).1 (c1.z 0).2) (.complex .f64 (c1.z 1).1 (c1.z 1).2) (.int .u32 c1.pc)
      have hblk := set11_blk hgx (.int .u32 (c1.r 0)) (.int .u32 (c1.r 1)) (.int .u32 (c1.r 2)) (.int .u32 (c1.r 3)) (.int .u32 (c1.r 4)) (.int .u32 (c1.r 5)) (.int .u32 (c1.r 6)) (.int .u32 (c1.r 7)) (.complex .f64 (c1.z 0).1 (c1.z 0).2) (.complex .f64 (c1.z 1).1 (c1.z 1).2) (.int .u32 c1.pc)
      go_simp
      refine hK.out _ _ (hS.but hbt hgl hgw) (fun hS => ?_)
      clear hK K r0 r1 r2 r3 r4 r5 r6 r7 r8 r9 r10 rf0 rf1 rf2 rf3 rf4 rf5 rf6 rf7 rf8 rf9 rf10
      refine wpAnyH_take (i := 10) (v := ?_) rfl (by kernel_rfl) (by kernel_rfl) (by kernel_rfl) (fun _ _ _ h => h) (Or.inl ⟨by kernel_rfl, ?_⟩) hS ?_
      rotate_left 1
      · intro w hT
        go_simp
        all_goals with_reducible rfl
      refine wpAnyH_take (i := 11) (v := ?_) rfl (by kernel_rfl) (by kernel_rfl) (by kernel_rfl) (fun _ _ _ h => h) (Or.inl ⟨by kernel_rfl, ?_⟩) hS ?_
      rotate_left 1
      · intro w hT
        go_simp
        all_goals with_reducible rfl
      refine wpAnyH_done (by kernel_rfl) ?_ _
      go_simp
      refine hm _ _ (Met.intro (hj _ _ ?_))
      repeat apply Exists.intro
      refine ⟨⟨rfl, rfl, gx, rfl, ⟨hS.b, fun x hx => ?_⟩⟩, rfl⟩
      rcases List.mem_cons.1 hx with rfl | hx
      · exact hblk
      · exact hS.k x hx
  case rest =>
  obtain ⟨rfl, rfl, g7, rfl, hkb⟩ := hcut
  go_upto_region 4 with (fail)
  go_cut [10, 11, 12] from 39 to 46 (fun pp nn tt wx => nn = .int .i64 2 ∧ tt = .int .i64 0 ∧ ∃ gx, pp = .pointer (some ⟨gx, 0, none⟩) ∧ KB w ((gx, c2) :: [(g7, c1), (g6, (cpuAB a b))]) wx)
  case first =>
    rename_i hj hm
    refine wp_region_held_drew (S := fun W => KB w [(g7, c1), (g6, (cpuAB a b))] W) (by kernel_rfl) (hkb.below (Below.refl _ _).drew) (fun hS => ?_)
    generalize wc.drew = Wd at *
    refine wpAnyH_take (i := 0) (v := ?_) rfl (by kernel_rfl) (by kernel_rfl) (by kernel_rfl) (fun _ _ _ h => h) (Or.inl ⟨by kernel_rfl, ?_⟩) hS ?_
    rotate_left 1
    · intro w hT
      obtain ⟨x0, x1, x2, x3, x4, x5, x6, x7, x8, x9, x10, xlt⟩ := cp_all (hT.k (g6, (cpuAB a b)) (by simp))
      go_simp
      all_goals with_reducible rfl
    refine wpAnyH_ready (rs := [1, 8]) (by kernel_rfl) (by simp) ?_
    refine AllReadyH.cons rfl (fun K hK => ?_) (AllReadyH.cons rfl (fun K hK => ?_) AllReadyH.nil)
    · skip
      go_simp
      refine (Hp2.out _ hS.b).mono ?_
      rintro e W1 ⟨⟨g, A, B, cap, rfl, hM, hg, hB, hBl⟩, hb⟩
      have hBw : w.heap.size ≤ B := Nat.le_trans hS.b.size hB
      have hnB : ∀ x ∈ [(g7, c1), (g6, (cpuAB a b))], x.1 ≠ B := fun x hx => Nat.ne_of_lt (Nat.lt_of_lt_of_le (hS.k x hx).lt hB)
      refine hK.out _ _ (hS.below hb) (fun hS => ?_)
      clear hK K hb hg hB
      refine wpAnyH_take (i := 2) (v := ?_) rfl (by kernel_rfl) (by kernel_rfl) (by kernel_rfl) (fun _ _ _ h => h) (Or.inl ⟨by kernel_rfl, ?_⟩) hS ?_
      rotate_left 1
      · intro w hT
        go_simp
        all_goals with_reducible rfl
      refine wpAnyH_ready (rs := [3, 8]) (by kernel_rfl) (by simp) ?_
      refine AllReadyH.cons rfl (fun K hK => ?_) (AllReadyH.cons rfl (fun K hK => ?_) AllReadyH.nil)
      · skip
        have hrun := HR.out W1 hS.b g A B cap _ hM hBl hBw (cpuAB a b) HOK.out 2 (by decide)
        rw [show ((2 : Int)).toNat = 2 from rfl, RC.out] at hrun
        have HRUN := Lib.hid (show Calls Tryd.prog 9 #[.agg #[.int .u32 ((cpuAB a b).r 0), .int .u32 ((cpuAB a b).r 1), .int .u32 ((cpuAB a b).r 2), .int .u32 ((cpuAB a b).r 3), .int .u32 ((cpuAB a b).r 4), .int .u32 ((cpuAB a b).r 5), .int .u32 ((cpuAB a b).r 6), .int .u32 ((cpuAB a b).r 7), .complex .f64 ((cpuAB a b).z 0).1 ((cpuAB a b).z 0).2, .complex .f64 ((cpuAB a b).z 1).1 ((cpuAB a b).z 1).2, .int .u32 (cpuAB a b).pc], .iface 31 (.pointer (some ⟨g, 0, none⟩)), .int .i64 2] W1 fun e w' => e = .returned (.tuple #[.agg #[.int .u32 (c2.r 0), .int .u32 (c2.r 1), .int .u32 (c2.r 2), .int .u32 (c2.r 3), .int .u32 (c2.r 4), .int .u32 (c2.r 5), .int .u32 (c2.r 6), .int .u32 (c2.r 7), .complex .f64 (c2.z 0).1 (c2.z 0).2, .complex .f64 (c2.z 1).1 (c2.z 1).2, .int .u32 c2.pc], .int .i64 2, .int .i64 0]) ∧ RamAt w' g A B cap _ ∧ But (fun k => k = B) W1 w' from hrun)
        clear hrun
        go_simp
        refine HRUN.out.mono ?_
        rintro e W2 ⟨rfl, hm2, hb2⟩
        refine hK.out _ _ (hS.but hb2 hnB hBw) (fun hS => ?_)
        clear hK K hm2 hb2 HRUN hM hBl hBw hnB
        refine wpAnyH_take (i := 4) (v := ?_) rfl (by kernel_rfl) (by kernel_rfl) (by kernel_rfl) (fun _ _ _ h => h) (Or.inl ⟨by kernel_rfl, ?_⟩) hS ?_
        rotate_left 1
        · intro w hT
          go_simp
          all_goals with_reducible rfl
        refine wpAnyH_take (i := 5) (v := ?_) rfl (by kernel_rfl) (by kernel_rfl) (by kernel_rfl) (fun _ _ _ h => h) (Or.inl ⟨by kernel_rfl, ?_⟩) hS ?_
        rotate_left 1
        · intro w hT
          go_simp
          all_goals with_reducible rfl
        refine wpAnyH_take (i := 6) (v := ?_) rfl (by kernel_rfl) (by kernel_rfl) (by kernel_rfl) (fun _ _ _ h => h) (Or.inl ⟨by kernel_rfl, ?_⟩) hS ?_
        rotate_left 1
        · intro w hT
          go_simp
          all_goals with_reducible rfl
        refine wpAnyH_take (i := 7) (v := ?_) rfl (by kernel_rfl) (by kernel_rfl) (by kernel_rfl) (fun _ _ _ h => h) (Or.inl ⟨by kernel_rfl, ?_⟩) hS ?_
        rotate_left 1
        · intro w hT
          go_simp
          all_goals with_reducible rfl
        refine wpAnyH_ready (rs := [8]) (by kernel_rfl) (by simp) ?_
        refine AllReadyH.cons rfl (fun K hK => ?_) AllReadyH.nil
        have hgx := Blk.new W2 28 #[.int .u32 0, .int .u32 0, .int .u32 0, .int .u32 0, .int .u32 0, .int .u32 0, .int .u32 0, .int .u32 0, .complex .f64 0 0, .complex .f64 0 0, .int .u32 0]
        have hbx := bl_new (Below.refl W2.heap.size W2) (.cells #[.int .u32 0, .int .u32 0, .int .u32 0, .int .u32 0, .int .u32 0, .int .u32 0, .int .u32 0, .int .u32 0, .complex .f64 0 0, .complex .f64 0 0, .int .u32 0] 28)
        have hgl : ∀ x ∈ [(g7, c1), (g6, (cpuAB a b))], x.1 ≠ W2.heap.size := fun x hx => Nat.ne_of_lt (hS.k x hx).lt
        have hgw : w.heap.size ≤ W2.heap.size := hS.b.size
        go_simp
        refine hK.out _ _ (hS.below hbx) (fun hS => ?_)
        clear hK K hbx
        generalize hwa : W2.alloc (.cells #[.int .u32 0, .int .u32 0, .int .u32 0, .int .u32 0, .int .u32 0, .int .u32 0, .int .u32 0, .int .u32 0, .complex .f64 0 0, .complex .f64 0 0, .int .u32 0] 28) = Wa at *
        generalize W2.heap.size = gx at *
        refine wpAnyH_ready (rs := [9]) (by kernel_rfl) (by simp) ?_
        refine AllReadyH.cons rfl (fun K hK => ?_) AllReadyH.nil
        have r0 := (row11 hgx).1
        have r1 := (row11 hgx).2.1
        have r2 := (row11 hgx).2.2.1
        have r3 := (row11 hgx).2.2.2.1
        have r4 := (row11 hgx).2.2.2.2.1
        have r5 := (row11 hgx).2.2.2.2.2.1
        have r6 := (row11 hgx).2.2.2.2.2.2.1
        have r7 := (row11 hgx).2.2.2.2.2.2.2.1
        have r8 := (row11 hgx).2.2.2.2.2.2.2.2.1
        have r9 := (row11 hgx).2.2.2.2.2.2.2.2.2.1
        have r10 := (row11 hgx).2.2.2.2.2.2.2.2.2.2.1
        have rlt := (row11 hgx).2.2.2.2.2.2.2.2.2.2.2
        have rf0 := hgx.frozen 0
        have rf1 := hgx.frozen 1
        have rf2 := hgx.frozen 2
        have rf3 := hgx.frozen 3
        have rf4 := hgx.frozen 4
        have rf5 := hgx.frozen 5
        have rf6 := hgx.frozen 6
        have rf7 := hgx.frozen 7
        have rf8 := hgx.frozen 8
        have rf9 := hgx.frozen 9
        have rf10 := hgx.frozen 10
        have hbt := set11_but (S := fun k => k = gx) (g := gx) (But.refl _ Wa) (.inl rfl) (.int .u32 (c2.r 0)) (.int .u32 (c2.r 1)) (.int .u32 (c2.r 2)) (.int .u32 (c2.r 3)) (.int .u32 (c2.r 4)) (.int .u32 (c2.r 5)) (.int .u32 (c2.r 6)) (.int .u32 (c2.r 7)) (.complex .f64 (c2.z 0).1 (c2.z 0).2) (.complex .f64 (c2.z 1).1 (c2.z 1).2) (.int .u32 c2.pc)
        have hblk := set11_blk hgx (.int .u32 (c2.r 0)) (.int .u32 (c2.r 1)) (.int .u32 (c2.r 2)) (.int .u32 (c2.r 3)) (.int .u32 (c2.r 4)) (.int .u32 (c2.r 5)) (.int .u32 (c2.r 6)) (.int .u32 (c2.r 7)) (.complex .f64 (c2.z 0).1 (c2.z 0).2) (.complex .f64 (c2.z 1).1 (c2.z 1).2) (.int .u32 c2.pc)
        go_simp
        refine hK.out _ _ (hS.but hbt hgl hgw) (fun hS => ?_)
        clear hK K r0 r1 r2 r3 r4 r5 r6 r7 r8 r9 r10 rf0 rf1 rf2 rf3 rf4 rf5 rf6 rf7 rf8 rf9 rf10
        refine wpAnyH_take (i := 10) (v := ?_) rfl (by kernel_rfl) (by kernel_rfl) (by kernel_rfl) (fun _ _ _ h => h) (Or.inl ⟨by kernel_rfl, ?_⟩) hS ?_
        rotate_left 1
        · intro w hT
          go_simp
          all_goals with_reducible rfl
        refine wpAnyH_take (i := 11) (v := ?_) rfl (by kernel_rfl) (by kernel_rfl) (by kernel_rfl) (fun _ _ _ h => h) (Or.inl ⟨by kernel_rfl, ?_⟩) hS ?_
        rotate_left 1
        · intro w hT
          go_simp
          all_goals with_reducible rfl
        refine wpAnyH_done (by kernel_rfl) ?_ _
        go_simp
        refine hm _ _ (Met.intro (hj _ _ ?_))
        repeat apply Exists.intro
        refine ⟨⟨rfl, rfl, gx, rfl, ⟨hS.b, fun x hx => ?_⟩⟩, rfl⟩
        rcases List.mem_cons.1 hx with rfl | hx
        · exact hblk
        · exact hS.k x hx
      · skip
        have hgx := Blk.new W1 28 #[.int .u32 0, .int .u32 0, .int .u32 0, .int .u32 0, .int .u32 0, .int .u32 0, .int .u32 0, .int .u32 0, .complex .f64 0 0, .complex .f64 0 0, .int .u32 0]
        have hbx := bl_new (Below.refl W1.heap.size W1) (.cells #[.int .u32 0, .int .u32 0, .int .u32 0, .int .u32 0, .int .u32 0, .int .u32 0, .int .u32 0, .int .u32 0, .complex .f64 0 0, .complex .f64 0 0, .int .u32 0] 28)
        have hgl : ∀ x ∈ [(g7, c1), (g6, (cpuAB a b))], x.1 ≠ W1.heap.size := fun x hx => Nat.ne_of_lt (hS.k x hx).lt
        have hgw : w.heap.size ≤ W1.heap.size := hS.b.size
        have hMa := hM.below hbx
        have hgB : W1.heap.size ≠ B := Nat.ne_of_gt hBl
        have hBla := Nat.lt_of_lt_of_le hBl hbx.size
        clear hM hBl
        go_simp
        refine hK.out _ _ (hS.below hbx) (fun hS => ?_)
        clear hK K hbx
        generalize hwa : W1.alloc (.cells #[.int .u32 0, .int .u32 0, .int .u32 0, .int .u32 0, .int .u32 0, .int .u32 0, .int .u32 0, .int .u32 0, .complex .f64 0 0, .complex .f64 0 0, .int .u32 0] 28) = Wa at *
        generalize W1.heap.size = gx at *
        refine wpAnyH_ready (rs := [3]) (by kernel_rfl) (by simp) ?_
        refine AllReadyH.cons rfl (fun K hK => ?_) AllReadyH.nil
        have hrun := HR.out Wa hS.b g A B cap _ hMa hBla hBw (cpuAB a b) HOK.out 2 (by decide)
        rw [show ((2 : Int)).toNat = 2 from rfl, RC.out] at hrun
        have HRUN := Lib.hid (show Calls Tryd.prog 9 #[.agg #[.int .u32 ((cpuAB a b).r 0), .int .u32 ((cpuAB a b).r 1), .int .u32 ((cpuAB a b).r 2), .int .u32 ((cpuAB a b).r 3), .int .u32 ((cpuAB a b).r 4), .int .u32 ((cpuAB a b).r 5), .int .u32 ((cpuAB a b).r 6), .int .u32 ((cpuAB a b).r 7), .complex .f64 ((cpuAB a b).z 0).1 ((cpuAB a b).z 0).2, .complex .f64 ((cpuAB a b).z 1).1 ((cpuAB a b).z 1).2, .int .u32 (cpuAB a b).pc], .iface 31 (.pointer (some ⟨g, 0, none⟩)), .int .i64 2] Wa fun e w' => e = .returned (.tuple #[.agg #[.int .u32 (c2.r 0), .int .u32 (c2.r 1), .int .u32 (c2.r 2), .int .u32 (c2.r 3), .int .u32 (c2.r 4), .int .u32 (c2.r 5), .int .u32 (c2.r 6), .int .u32 (c2.r 7), .complex .f64 (c2.z 0).1 (c2.z 0).2, .complex .f64 (c2.z 1).1 (c2.z 1).2, .int .u32 c2.pc], .int .i64 2, .int .i64 0]) ∧ RamAt w' g A B cap _ ∧ But (fun k => k = B) Wa w' from hrun)
        clear hrun
        go_simp
        refine HRUN.out.mono ?_
        rintro e W2 ⟨rfl, hm2, hb2⟩
        have hgx := hgx.but hb2 hgB
        refine hK.out _ _ (hS.but hb2 hnB hBw) (fun hS => ?_)
        clear hK K hm2 hb2 HRUN hMa hBla hBw hnB
        refine wpAnyH_take (i := 4) (v := ?_) rfl (by kernel_rfl) (by kernel_rfl) (by kernel_rfl) (fun _ _ _ h => h) (Or.inl ⟨by kernel_rfl, ?_⟩) hS ?_
        rotate_left 1
        · intro w hT
          go_simp
          all_goals with_reducible rfl
        refine wpAnyH_take (i := 5) (v := ?_) rfl (by kernel_rfl) (by kernel_rfl) (by kernel_rfl) (fun _ _ _ h => h) (Or.inl ⟨by kernel_rfl, ?_⟩) hS ?_
        rotate_left 1
        · intro w hT
          go_simp
          all_goals with_reducible rfl
        refine wpAnyH_take (i := 6) (v := ?_) rfl (by kernel_rfl) (by kernel_rfl) (by kernel_rfl) (fun _ _ _ h => h) (Or.inl ⟨by kernel_rfl, ?_⟩) hS ?_
        rotate_left 1
        · intro w hT
          go_simp
          all_goals with_reducible rfl
        refine wpAnyH_take (i := 7) (v := ?_) rfl (by kernel_rfl) (by kernel_rfl) (by kernel_rfl) (fun _ _ _ h => h) (Or.inl ⟨by kernel_rfl, ?_⟩) hS ?_
        rotate_left 1
        · intro w hT
          go_simp
          all_goals with_reducible rfl
        refine wpAnyH_ready (rs := [9]) (by kernel_rfl) (by simp) ?_
        refine AllReadyH.cons rfl (fun K hK => ?_) AllReadyH.nil
        have r0 := (row11 hgx).1
        have r1 := (row11 hgx).2.1
        have r2 := (row11 hgx).2.2.1
        have r3 := (row11 hgx).2.2.2.1
        have r4 := (row11 hgx).2.2.2.2.1
        have r5 := (row11 hgx).2.2.2.2.2.1
        have r6 := (row11 hgx).2.2.2.2.2.2.1
        have r7 := (row11 hgx).2.2.2.2.2.2.2.1
        have r8 := (row11 hgx).2.2.2.2.2.2.2.2.1
        have r9 := (row11 hgx).2.2.2.2.2.2.2.2.2.1
        have r10 := (row11 hgx).2.2.2.2.2.2.2.2.2.2.1
        have rlt := (row11 hgx).2.2.2.2.2.2.2.2.2.2.2
        have rf0 := hgx.frozen 0
        have rf1 := hgx.frozen 1
        have rf2 := hgx.frozen 2
        have rf3 := hgx.frozen 3
        have rf4 := hgx.frozen 4
        have rf5 := hgx.frozen 5
        have rf6 := hgx.frozen 6
        have rf7 := hgx.frozen 7
        have rf8 := hgx.frozen 8
        have rf9 := hgx.frozen 9
        have rf10 := hgx.frozen 10
        have hbt := set11_but (S := fun k => k = gx) (g := gx) (But.refl _ W2) (.inl rfl) (.int .u32 (c2.r 0)) (.int .u32 (c2.r 1)) (.int .u32 (c2.r 2)) (.int .u32 (c2.r 3)) (.int .u32 (c2.r 4)) (.int .u32 (c2.r 5)) (.int .u32 (c2.r 6)) (.int .u32 (c2.r 7)) (.complex .f64 (c2.z 0).1 (c2.z 0).2) (.complex .f64 (c2.z 1).1 (c2.z 1).2) (.int .u32 c2.pc)
        have hblk := set11_blk hgx (.int .u32 (c2.r 0)) (.int .u32 (c2.r 1)) (.int .u32 (c2.r 2)) (.int .u32 (c2.r 3)) (.int .u32 (c2.r 4)) (.int .u32 (c2.r 5)) (.int .u32 (c2.r 6)) (.int .u32 (c2.r 7)) (.complex .f64 (c2.z 0).1 (c2.z 0).2) (.complex .f64 (c2.z 1).1 (c2.z 1).2) (.int .u32 c2.pc)
        go_simp
        refine hK.out _ _ (hS.but hbt hgl hgw) (fun hS => ?_)
        clear hK K r0 r1 r2 r3 r4 r5 r6 r7 r8 r9 r10 rf0 rf1 rf2 rf3 rf4 rf5 rf6 rf7 rf8 rf9 rf10
        refine wpAnyH_take (i := 10) (v := ?_) rfl (by kernel_rfl) (by kernel_rfl) (by kernel_rfl) (fun _ _ _ h => h) (Or.inl ⟨by kernel_rfl, ?_⟩) hS ?_
        rotate_left 1
        · intro w hT
          go_simp
          all_goals with_reducible rfl
        refine wpAnyH_take (i := 11) (v := ?_) rfl (by kernel_rfl) (by kernel_rfl) (by kernel_rfl) (fun _ _ _ h => h) (Or.inl ⟨by kernel_rfl, ?_⟩) hS ?_
        rotate_left 1
        · intro w hT
          go_simp
          all_goals with_reducible rfl
        refine wpAnyH_done (by kernel_rfl) ?_ _
        go_simp
        refine hm _ _ (Met.intro (hj _ _ ?_))
        repeat apply Exists.intro
        refine ⟨⟨rfl, rfl, gx, rfl, ⟨hS.b, fun x hx => ?_⟩⟩, rfl⟩
        rcases List.mem_cons.1 hx with rfl | hx
        · exact hblk
        · exact hS.k x hx
    · skip
      have hgx := Blk.new Wd 28 #[.int .u32 0, .int .u32 0, .int .u32 0, .int .u32 0, .int .u32 0, .int .u32 0, .int .u32 0, .int .u32 0, .complex .f64 0 0, .complex .f64 0 0, .int .u32 0]
      have hbx := bl_new (Below.refl Wd.heap.size Wd) (.cells #[.int .u32 0, .int .u32 0, .int .u32 0, .int .u32 0, .int .u32 0, .int .u32 0, .int .u32 0, .int .u32 0, .complex .f64 0 0, .complex .f64 0 0, .int .u32 0] 28)
      have hgl : ∀ x ∈ [(g7, c1), (g6, (cpuAB a b))], x.1 ≠ Wd.heap.size := fun x hx => Nat.ne_of_lt (hS.k x hx).lt
      have hgw : w.heap.size ≤ Wd.heap.size := hS.b.size
      go_simp
      refine hK.out _ _ (hS.below hbx) (fun hS => ?_)
      clear hK K hbx
      generalize hwa : Wd.alloc (.cells #[.int .u32 0, .int .u32 0, .int .u32 0, .int .u32 0, .int .u32 0, .int .u32 0, .int .u32 0, .int .u32 0, .complex .f64 0 0, .complex .f64 0 0, .int .u32 0] 28) = Wa at *
      generalize Wd.heap.size = gx at *
      refine wpAnyH_ready (rs := [1]) (by kernel_rfl) (by simp) ?_
      refine AllReadyH.cons rfl (fun K hK => ?_) AllReadyH.nil
      go_simp
      refine (Hp2.out _ hS.b).mono ?_
      rintro e W1 ⟨⟨g, A, B, cap, rfl, hM, hg, hB, hBl⟩, hb⟩
      have hBw : w.heap.size ≤ B := Nat.le_trans hS.b.size hB
      have hnB : ∀ x ∈ [(g7, c1), (g6, (cpuAB a b))], x.1 ≠ B := fun x hx => Nat.ne_of_lt (Nat.lt_of_lt_of_le (hS.k x hx).lt hB)
      have hgB : gx ≠ B := Nat.ne_of_lt (Nat.lt_of_lt_of_le hgx.lt hB)
      have hgx := hgx.below hb hgx.lt
      refine hK.out _ _ (hS.below hb) (fun hS => ?_)
      clear hK K hb hg hB
      refine wpAnyH_take (i := 2) (v := ?_) rfl (by kernel_rfl) (by kernel_rfl) (by kernel_rfl) (fun _ _ _ h => h) (Or.inl ⟨by kernel_rfl, ?_⟩) hS ?_
      rotate_left 1
      · intro w hT
        go_simp
        all_goals with_reducible rfl
      refine wpAnyH_ready (rs := [3]) (by kernel_rfl) (by simp) ?_
      refine AllReadyH.cons rfl (fun K hK => ?_) AllReadyH.nil
      have hrun := HR.out W1 hS.b g A B cap _ hM hBl hBw (cpuAB a b) HOK.out 2 (by decide)
      rw [show ((2 : Int)).toNat = 2 from rfl, RC.out] at hrun
      have HRUN := Lib.hid (show Calls Tryd.prog 9 #[.agg #[.int .u32 ((cpuAB a b).r 0), .int .u32 ((cpuAB a b).r 1), .int .u32 ((cpuAB a b).r 2), .int .u32 ((cpuAB a b).r 3), .int .u32 ((cpuAB a b).r 4), .int .u32 ((cpuAB a b).r 5), .int .u32 ((cpuAB a b).r 6), .int .u32 ((cpuAB a b).r 7), .complex .f64 ((cpuAB a b).z 0).1 ((cpuAB a b).z 0).2, .complex .f64 ((cpuAB a b).z 1).1 ((cpuAB a b).z 1).2, .int .u32 (cpuAB a b).pc], .iface 31 (.pointer (some ⟨g, 0, none⟩)), .int .i64 2] W1 fun e w' => e = .returned (.tuple #[.agg #[.int .u32 (c2.r 0), .int .u32 (c2.r 1), .int .u32 (c2.r 2), .int .u32 (c2.r 3), .int .u32 (c2.r 4), .int .u32 (c2.r 5), .int .u32 (c2.r 6), .int .u32 (c2.r 7), .complex .f64 (c2.z 0).1 (c2.z 0).2, .complex .f64 (c2.z 1).1 (c2.z 1).2, .int .u32 c2.pc], .int .i64 2, .int .i64 0]) ∧ RamAt w' g A B cap _ ∧ But (fun k => k = B) W1 w' from hrun)
      clear hrun
      go_simp
      refine HRUN.out.mono ?_
      rintro e W2 ⟨rfl, hm2, hb2⟩
      have hgx := hgx.but hb2 hgB
      refine hK.out _ _ (hS.but hb2 hnB hBw) (fun hS => ?_)
      clear hK K hm2 hb2 HRUN hM hBl hBw hnB
      refine wpAnyH_take (i := 4) (v := ?_) rfl (by kernel_rfl) (by kernel_rfl) (by kernel_rfl) (fun _ _ _ h => h) (Or.inl ⟨by kernel_rfl, ?_⟩) hS ?_
      rotate_left 1
      · intro w hT
        go_simp
        all_goals with_reducible rfl
      refine wpAnyH_take (i := 5) (v := ?_) rfl (by kernel_rfl) (by kernel_rfl) (by kernel_rfl) (fun _ _ _ h => h) (Or.inl ⟨by kernel_rfl, ?_⟩) hS ?_
      rotate_left 1
      · intro w hT
        go_simp
        all_goals with_reducible rfl
      refine wpAnyH_take (i := 6) (v := ?_) rfl (by kernel_rfl) (by kernel_rfl) (by kernel_rfl) (fun _ _ _ h => h) (Or.inl ⟨by kernel_rfl, ?_⟩) hS ?_
      rotate_left 1
      · intro w hT
        go_simp
        all_goals with_reducible rfl
      refine wpAnyH_take (i := 7) (v := ?_) rfl (by kernel_rfl) (by kernel_rfl) (by kernel_rfl) (fun _ _ _ h => h) (Or.inl ⟨by kernel_rfl, ?_⟩) hS ?_
      rotate_left 1
      · intro w hT
        go_simp
        all_goals with_reducible rfl
      refine wpAnyH_ready (rs := [9]) (by kernel_rfl) (by simp) ?_
      refine AllReadyH.cons rfl (fun K hK => ?_) AllReadyH.nil
      have r0 := (row11 hgx).1
      have r1 := (row11 hgx).2.1
      have r2 := (row11 hgx).2.2.1
      have r3 := (row11 hgx).2.2.2.1
      have r4 := (row11 hgx).2.2.2.2.1
      have r5 := (row11 hgx).2.2.2.2.2.1
      have r6 := (row11 hgx).2.2.2.2.2.2.1
      have r7 := (row11 hgx).2.2.2.2.2.2.2.1
      have r8 := (row11 hgx).2.2.2.2.2.2.2.2.1
      have r9 := (row11 hgx).2.2.2.2.2.2.2.2.2.1
      have r10 := (row11 hgx).2.2.2.2.2.2.2.2.2.2.1
      have rlt := (row11 hgx).2.2.2.2.2.2.2.2.2.2.2
      have rf0 := hgx.frozen 0
      have rf1 := hgx.frozen 1
      have rf2 := hgx.frozen 2
      have rf3 := hgx.frozen 3
      have rf4 := hgx.frozen 4
      have rf5 := hgx.frozen 5
      have rf6 := hgx.frozen 6
      have rf7 := hgx.frozen 7
      have rf8 := hgx.frozen 8
      have rf9 := hgx.frozen 9
      have rf10 := hgx.frozen 10
      have hbt := set11_but (S := fun k => k = gx) (g := gx) (But.refl _ W2) (.inl rfl) (.int .u32 (c2.r 0)) (.int .u32 (c2.r 1)) (.int .u32 (c2.r 2)) (.int .u32 (c2.r 3)) (.int .u32 (c2.r 4)) (.int .u32 (c2.r 5)) (.int .u32 (c2.r 6)) (.int .u32 (c2.r 7)) (.complex .f64 (c2.z 0).1 (c2.z 0).2) (.complex .f64 (c2.z 1).1 (c2.z 1).2) (.int .u32 c2.pc)
      have hblk := set11_blk hgx (.int .u32 (c2.r 0)) (.int .u32 (c2.r 1)) (.int .u32 (c2.r 2)) (.int .u32 (c2.r 3)) (.int .u32 (c2.r 4)) (.int .u32 (c2.r 5)) (.int .u32 (c2.r 6)) (.int .u32 (c2.r 7)) (.complex .f64 (c2.z 0).1 (c2.z 0).2) (.complex .f64 (c2.z 1).1 (c2.z 1).2) (.int .u32 c2.pc)
      go_simp
      refine hK.out _ _ (hS.but hbt hgl hgw) (fun hS => ?_)
      clear hK K r0 r1 r2 r3 r4 r5 r6 r7 r8 r9 r10 rf0 rf1 rf2 rf3 rf4 rf5 rf6 rf7 rf8 rf9 rf10
      refine wpAnyH_take (i := 10) (v := ?_) rfl (by kernel_rfl) (by kernel_rfl) (by kernel_rfl) (fun _ _ _ h => h) (Or.inl ⟨by kernel_rfl, ?_⟩) hS ?_
      rotate_left 1
      · intro w hT
        go_simp
        all_goals with_reducible rfl
      refine wpAnyH_take (i := 11) (v := ?_) rfl (by kernel_rfl) (by kernel_rfl) (by kernel_rfl) (fun _ _ _ h => h) (Or.inl ⟨by kernel_rfl, ?_⟩) hS ?_
      rotate_left 1
      · intro w hT
        go_simp
        all_goals with_reducible rfl
      refine wpAnyH_done (by kernel_rfl) ?_ _
      go_simp
      refine hm _ _ (Met.intro (hj _ _ ?_))
      repeat apply Exists.intro
      refine ⟨⟨rfl, rfl, gx, rfl, ⟨hS.b, fun x hx => ?_⟩⟩, rfl⟩
      rcases List.mem_cons.1 hx with rfl | hx
      · exact hblk
      · exact hS.k x hx
  case rest =>
  obtain ⟨rfl, rfl, g8, rfl, hkb⟩ := hcut
  go_upto_region 5 with (fail)
  go_cut [13, 14, 15] from 47 to 54 (fun pp nn tt wx => nn = .int .i64 5 ∧ tt = .int .i64 0 ∧ ∃ gx, pp = .pointer (some ⟨gx, 0, none⟩) ∧ KB w ((gx, c3) :: [(g8, c2), (g7, c1), (g6, (cpuAB a b))]) wx)
  case first =>
    rename_i hj hm
    refine wp_region_held_drew (S := fun W => KB w [(g8, c2), (g7, c1), (g6, (cpuAB a b))] W) (by kernel_rfl) (hkb.below (Below.refl _ _).drew) (fun hS => ?_)
    generalize wc.drew = Wd at *
    refine wpAnyH_take (i := 0) (v := ?_) rfl (by kernel_rfl) (by kernel_rfl) (by kernel_rfl) (fun _ _ _ h => h) (Or.inl ⟨by kernel_rfl, ?_⟩) hS ?_
    rotate_left 1
    · intro w hT
      obtain ⟨x0, x1, x2, x3, x4, x5, x6, x7, x8, x9, x10, xlt⟩ := cp_all (hT.k (g6, (cpuAB a b)) (by simp))
      go_simp
      all_goals with_reducible rfl
    refine wpAnyH_ready (rs := [1, 8]) (by kernel_rfl) (by simp) ?_
    refine AllReadyH.cons rfl (fun K hK => ?_) (AllReadyH.cons rfl (fun K hK => ?_) AllReadyH.nil)
    · skip
      go_simp
      refine (Hp3.out _ hS.b).mono ?_
      rintro e W1 ⟨⟨g, A, B, cap, rfl, hM, hg, hB, hBl⟩, hb⟩
      have hBw : w.heap.size ≤ B := Nat.le_trans hS.b.size hB
      have hnB : ∀ x ∈ [(g8, c2), (g7, c1), (g6, (cpuAB a b))], x.1 ≠ B := fun x hx => Nat.ne_of_lt (Nat.lt_of_lt_of_le (hS.k x hx).lt hB)
      refine hK.out _ _ (hS.below hb) (fun hS => ?_)
      clear hK K hb hg hB
      refine wpAnyH_take (i := 2) (v := ?_) rfl (by kernel_rfl) (by kernel_rfl) (by kernel_rfl) (fun _ _ _ h => h) (Or.inl ⟨by kernel_rfl, ?_⟩) hS ?_
      rotate_left 1
      · intro w hT
        go_simp
        all_goals with_reducible rfl
      refine wpAnyH_ready (rs := [3, 8]) (by kernel_rfl) (by simp) ?_
      refine AllReadyH.cons rfl (fun K hK => ?_) (AllReadyH.cons rfl (fun K hK => ?_) AllReadyH.nil)
      · skip
        have hrun := HR.out W1 hS.b g A B cap _ hM hBl hBw (cpuAB a b) HOK.out 5 (by decide)
        rw [show ((5 : Int)).toNat = 5 from rfl, RE.out] at hrun
        have HRUN := Lib.hid (show Calls Tryd.prog 9 #[.agg #[.int .u32 ((cpuAB a b).r 0), .int .u32 ((cpuAB a b).r 1), .int .u32 ((cpuAB a b).r 2), .int .u32 ((cpuAB a b).r 3), .int .u32 ((cpuAB a b).r 4), .int .u32 ((cpuAB a b).r 5), .int .u32 ((cpuAB a b).r 6), .int .u32 ((cpuAB a b).r 7), .complex .f64 ((cpuAB a b).z 0).1 ((cpuAB a b).z 0).2, .complex .f64 ((cpuAB a b).z 1).1 ((cpuAB a b).z 1).2, .int .u32 (cpuAB a b).pc], .iface 31 (.pointer (some ⟨g, 0, none⟩)), .int .i64 5] W1 fun e w' => e = .returned (.tuple #[.agg #[.int .u32 (c3.r 0), .int .u32 (c3.r 1), .int .u32 (c3.r 2), .int .u32 (c3.r 3), .int .u32 (c3.r 4), .int .u32 (c3.r 5), .int .u32 (c3.r 6), .int .u32 (c3.r 7), .complex .f64 (c3.z 0).1 (c3.z 0).2, .complex .f64 (c3.z 1).1 (c3.z 1).2, .int .u32 c3.pc], .int .i64 5, .int .i64 0]) ∧ RamAt w' g A B cap _ ∧ But (fun k => k = B) W1 w' from hrun)
        clear hrun
        go_simp
        refine HRUN.out.mono ?_
        rintro e W2 ⟨rfl, hm2, hb2⟩
        refine hK.out _ _ (hS.but hb2 hnB hBw) (fun hS => ?_)
        clear hK K hm2 hb2 HRUN hM hBl hBw hnB
        refine wpAnyH_take (i := 4) (v := ?_) rfl (by kernel_rfl) (by kernel_rfl) (by kernel_rfl) (fun _ _ _ h => h) (Or.inl ⟨by kernel_rfl, ?_⟩) hS ?_
        rotate_left 1
        · intro w hT
          go_simp
          all_goals with_reducible rfl
        refine wpAnyH_take (i := 5) (v := ?_) rfl (by kernel_rfl) (by kernel_rfl) (by kernel_rfl) (fun _ _ _ h => h) (Or.inl ⟨by kernel_rfl, ?_⟩) hS ?_
        rotate_left 1
        · intro w hT
          go_simp
          all_goals with_reducible rfl
        refine wpAnyH_take (i := 6) (v := ?_) rfl (by kernel_rfl) (by kernel_rfl) (by kernel_rfl) (fun _ _ _ h => h) (Or.inl ⟨by kernel_rfl, ?_⟩) hS ?_
        rotate_left 1
        · intro w hT
          go_simp
          all_goals with_reducible rfl
        refine wpAnyH_take (i := 7) (v := ?_) rfl (by kernel_rfl) (by kernel_rfl) (by kernel_rfl) (fun _ _ _ h => h) (Or.inl ⟨by kernel_rfl, ?_⟩) hS ?_
        rotate_left 1
        · intro w hT
          go_simp
          all_goals with_reducible rfl
        refine wpAnyH_ready (rs := [8]) (by kernel_rfl) (by simp) ?_
        refine AllReadyH.cons rfl (fun K hK => ?_) AllReadyH.nil
        have hgx := Blk.new W2 28 #[.int .u32 0, .int .u32 0, .int .u32 0, .int .u32 0, .int .u32 0, .int .u32 0, .int .u32 0, .int .u32 0, .complex .f64 0 0, .complex .f64 0 0, .int .u32 0]
        have hbx := bl_new (Below.refl W2.heap.size W2) (.cells #[.int .u32 0, .int .u32 0, .int .u32 0, .int .u32 0, .int .u32 0, .int .u32 0, .int .u32 0, .int .u32 0, .complex .f64 0 0, .complex .f64 0 0, .int .u32 0] 28)
        have hgl : ∀ x ∈ [(g8, c2), (g7, c1), (g6, (cpuAB a b))], x.1 ≠ W2.heap.size := fun x hx => Nat.ne_of_lt (hS.k x hx).lt
        have hgw : w.heap.size ≤ W2.heap.size := hS.b.size
        go_simp
        refine hK.out _ _ (hS.below hbx) (fun hS => ?_)
        clear hK K hbx
        generalize hwa : W2.alloc (.cells #[.int .u32 0, .int .u32 0, .int .u32 0, .int .u32 0, .int .u32 0, .int .u32 0, .int .u32 0, .int .u32 0, .complex .f64 0 0, .complex .f64 0 0, .int .u32 0] 28) = Wa at *
        generalize W2.heap.size = gx at *
        refine wpAnyH_ready (rs := [9]) (by kernel_rfl) (by simp) ?_
        refine AllReadyH.cons rfl (fun K hK => ?_) AllReadyH.nil
        have r0 := (row11 hgx).1
        have r1 := (row11 hgx).2.1
        have r2 := (row11 hgx).2.2.1
        have r3 := (row11 hgx).2.2.2.1
        have r4 := (row11 hgx).2.2.2.2.1
        have r5 := (row11 hgx).2.2.2.2.2.1
        have r6 := (row11 hgx).2.2.2.2.2.2.1
        have r7 := (row11 hgx).2.2.2.2.2.2.2.1
        have r8 := (row11 hgx).2.2.2.2.2.2.2.2.1
        have r9 := (row11 hgx).2.2.2.2.2.2.2.2.2.1
        have r10 := (row11 hgx).2.2.2.2.2.2.2.2.2.2.1
        have rlt := (row11 hgx).2.2.2.2.2.2.2.2.2.2.2
        have rf0 := hgx.frozen 0
        have rf1 := hgx.frozen 1
        have rf2 := hgx.frozen 2
        have rf3 := hgx.frozen 3
        have rf4 := hgx.frozen 4
        have rf5 := hgx.frozen 5
        have rf6 := hgx.frozen 6
        have rf7 := hgx.frozen 7
        have rf8 := hgx.frozen 8
        have rf9 := hgx.frozen 9
        have rf10 := hgx.frozen 10
        have hbt := set11_but (S := fun k => k = gx) (g := gx) (But.refl _ Wa) (.inl rfl) (.int .u32 (c3.r 0)) (.int .u32 (c3.r 1)) (.int .u32 (c3.r 2)) (.int .u32 (c3.r 3)) (.int .u32 (c3.r 4)) (.int .u32 (c3.r 5)) (.int .u32 (c3.r 6)) (.int .u32 (c3.r 7)) (.complex .f64 (c3.z 0).1 (c3.z 0).2) (.complex .f64 (c3.z 1).1 (c3.z 1).2) (.int .u32 c3.pc)
        have hblk := set11_blk hgx (.int .u32 (c3.r 0)) (.int .u32 (c3.r 1)) (.int .u32 (c3.r 2)) (.int .u32 (c3.r 3)) (.int .u32 (c3.r 4)) (.int .u32 (c3.r 5)) (.int .u32 (c3.r 6)) (.int .u32 (c3.r 7)) (.complex .f64 (c3.z 0).1 (c3.z 0).2) (.complex .f64 (c3.z 1).1 (c3.z 1).2) (.int .u32 c3.pc)
        go_simp
        refine hK.out _ _ (hS.but hbt hgl hgw) (fun hS => ?_)
        clear hK K r0 r1 r2 r3 r4 r5 r6 r7 r8 r9 r10 rf0 rf1 rf2 rf3 rf4 rf5 rf6 rf7 rf8 rf9 rf10
        refine wpAnyH_take (i := 10) (v := ?_) rfl (by kernel_rfl) (by kernel_rfl) (by kernel_rfl) (fun _ _ _ h => h) (Or.inl ⟨by kernel_rfl, ?_⟩) hS ?_
        rotate_left 1
        · intro w hT
          go_simp
          all_goals with_reducible rfl
        refine wpAnyH_take (i := 11) (v := ?_) rfl (by kernel_rfl) (by kernel_rfl) (by kernel_rfl) (fun _ _ _ h => h) (Or.inl ⟨by kernel_rfl, ?_⟩) hS ?_
        rotate_left 1
        · intro w hT
          go_simp
          all_goals with_reducible rfl
        refine wpAnyH_done (by kernel_rfl) ?_ _
        go_simp
        refine hm _ _ (Met.intro (hj _ _ ?_))
        repeat apply Exists.intro
        refine ⟨⟨rfl, rfl, gx, rfl, ⟨hS.b, fun x hx => ?_⟩⟩, rfl⟩
        rcases List.mem_cons.1 hx with rfl | hx
        · exact hblk
        · exact hS.k x hx
      · skip
        have hgx := Blk.new W1 28 #[.int .u32 0, .int .u32 0, .int .u32 0, .int .u32 0, .int .u32 0, .int .u32 0, .int .u32 0, .int .u32 0, .complex .f64 0 0, .complex .f64 0 0, .int .u32 0]
        have hbx := bl_new (Below.refl W1.heap.size W1) (.cells #[.int .u32 0, .int .u32 0, .int .u32 0, .int .u32 0, .int .u32 0, .int .u32 0, .int .u32 0, .int .u32 0, .complex .f64 0 0, .complex .f64 0 0, .int .u32 0] 28)
        have hgl : ∀ x ∈ [(g8, c2), (g7, c1), (g6, (cpuAB a b))], x.1 ≠ W1.heap.size := fun x hx => Nat.ne_of_lt (hS.k x hx).lt
        have hgw : w.heap.size ≤ W1.heap.size := hS.b.size
        have hMa := hM.below hbx
        have hgB : W1.heap.size ≠ B := Nat.ne_of_gt hBl
        have hBla := Nat.lt_of_lt_of_le hBl hbx.size
        clear hM hBl
        go_simp
        refine hK.out _ _ (hS.below hbx) (fun hS => ?_)
        clear hK K hbx
        generalize hwa : W1.alloc (.cells #[.int .u32 0, .int .u32 0, .int .u32 0, .int .u32 0, .int .u32 0, .int .u32 0, .int .u32 0, .int .u32 0, .complex .f64 0 0, .complex .f64 0 0, .int .u32 0] 28) = Wa at *
        generalize W1.heap.size = gx at *
        refine wpAnyH_ready (rs := [3]) (by kernel_rfl) (by simp) ?_
        refine AllReadyH.cons rfl (fun K hK => ?_) AllReadyH.nil
        have hrun := HR.out Wa hS.b g A B cap _ hMa hBla hBw (cpuAB a b) HOK.out 5 (by decide)
        rw [show ((5 : Int)).toNat = 5 from rfl, RE.out] at hrun
        have HRUN := Lib.hid (show Calls Tryd.prog 9 #[.agg #[.int .u32 ((cpuAB a b).r 0), .int .u32 ((cpuAB a b).r 1), .int .u32 ((cpuAB a b).r 2), .int .u32 ((cpuAB a b).r 3), .int .u32 ((cpuAB a b).r 4), .int .u32 ((cpuAB a b).r 5), .int .u32 ((cpuAB a b).r 6), .int .u32 ((cpuAB a b).r 7), .complex .f64 ((cpuAB a b).z 0).1 ((cpuAB a b).z 0).2, .complex .f64 ((cpuAB a b).z 1).1 ((cpuAB a b).z 1).2, .int .u32 (cpuAB a b).pc], .iface 31 (.pointer (some ⟨g, 0, none⟩)), .int .i64 5] Wa fun e w' => e = .returned (.tuple #[.agg #[.int .u32 (c3.r 0), .int .u32 (c3.r 1), .int .u32 (c3.r 2), .int .u32 (c3.r 3), .int .u32 (c3.r 4), .int .u32 (c3.r 5), .int .u32 (c3.r 6), .int .u32 (c3.r 7), .complex .f64 (c3.z 0).1 (c3.z 0).2, .complex .f64 (c3.z 1).1 (c3.z 1).2, .int .u32 c3.pc], .int .i64 5, .int .i64 0]) ∧ RamAt w' g A B cap _ ∧ But (fun k => k = B) Wa w' from hrun)
        clear hrun
        go_simp
        refine HRUN.out.mono ?_
        rintro e W2 ⟨rfl, hm2, hb2⟩
        have hgx := hgx.but hb2 hgB
        refine hK.out _ _ (hS.but hb2 hnB hBw) (fun hS => ?_)
        clear hK K hm2 hb2 HRUN hMa hBla hBw hnB
        refine wpAnyH_take (i := 4) (v := ?_) rfl (by kernel_rfl) (by kernel_rfl) (by kernel_rfl) (fun _ _ _ h => h) (Or.inl ⟨by kernel_rfl, ?_⟩) hS ?_
        rotate_left 1
        · intro w hT
          go_simp
          all_goals with_reducible rfl
        refine wpAnyH_take (i := 5) (v := ?_) rfl (by kernel_rfl) (by kernel_rfl) (by kernel_rfl) (fun _ _ _ h => h) (Or.inl ⟨by kernel_rfl, ?_⟩) hS ?_
        rotate_left 1
        · intro w hT
          go_simp
          all_goals with_reducible rfl
        refine wpAnyH_take (i := 6) (v := ?_) rfl (by kernel_rfl) (by kernel_rfl) (by kernel_rfl) (fun _ _ _ h => h) (Or.inl ⟨by kernel_rfl, ?_⟩) hS ?_
        rotate_left 1
        · intro w hT
          go_simp
          all_goals with_reducible rfl
        refine wpAnyH_take (i := 7) (v := ?_) rfl (by kernel_rfl) (by kernel_rfl) (by kernel_rfl) (fun _ _ _ h => h) (Or.inl ⟨by kernel_rfl, ?_⟩) hS ?_
        rotate_left 1
        · intro w hT
          go_simp
          all_goals with_reducible rfl
        refine wpAnyH_ready (rs := [9]) (by kernel_rfl) (by simp) ?_
        refine AllReadyH.cons rfl (fun K hK => ?_) AllReadyH.nil
        have r0 := (row11 hgx).1
        have r1 := (row11 hgx).2.1
        have r2 := (row11 hgx).2.2.1
        have r3 := (row11 hgx).2.2.2.1
        have r4 := (row11 hgx).2.2.2.2.1
        have r5 := (row11 hgx).2.2.2.2.2.1
        have r6 := (row11 hgx).2.2.2.2.2.2.1
        have r7 := (row11 hgx).2.2.2.2.2.2.2.1
        have r8 := (row11 hgx).2.2.2.2.2.2.2.2.1
        have r9 := (row11 hgx).2.2.2.2.2.2.2.2.2.1
        have r10 := (row11 hgx).2.2.2.2.2.2.2.2.2.2.1
        have rlt := (row11 hgx).2.2.2.2.2.2.2.2.2.2.2
        have rf0 := hgx.frozen 0
        have rf1 := hgx.frozen 1
        have rf2 := hgx.frozen 2
        have rf3 := hgx.frozen 3
        have rf4 := hgx.frozen 4
        have rf5 := hgx.frozen 5
        have rf6 := hgx.frozen 6
        have rf7 := hgx.frozen 7
        have rf8 := hgx.frozen 8
        have rf9 := hgx.frozen 9
        have rf10 := hgx.frozen 10
        have hbt := set11_but (S := fun k => k = gx) (g := gx) (But.refl _ W2) (.inl rfl) (.int .u32 (c3.r 0)) (.int .u32 (c3.r 1)) (.int .u32 (c3.r 2)) (.int .u32 (c3.r 3)) (.int .u32 (c3.r 4)) (.int .u32 (c3.r 5)) (.int .u32 (c3.r 6)) (.int .u32 (c3.r 7)) (.complex .f64 (c3.z 0).1 (c3.z 0).2) (.complex .f64 (c3.z 1).1 (c3.z 1).2) (.int .u32 c3.pc)
        have hblk := set11_blk hgx (.int .u32 (c3.r 0)) (.int .u32 (c3.r 1)) (.int .u32 (c3.r 2)) (.int .u32 (c3.r 3)) (.int .u32 (c3.r 4)) (.int .u32 (c3.r 5)) (.int .u32 (c3.r 6)) (.int .u32 (c3.r 7)) (.complex .f64 (c3.z 0).1 (c3.z 0).2) (.complex .f64 (c3.z 1).1 (c3.z 1).2) (.int .u32 c3.pc)
        go_simp
        refine hK.out _ _ (hS.but hbt hgl hgw) (fun hS => ?_)
        clear hK K r0 r1 r2 r3 r4 r5 r6 r7 r8 r9 r10 rf0 rf1 rf2 rf3 rf4 rf5 rf6 rf7 rf8 rf9 rf10
        refine wpAnyH_take (i := 10) (v := ?_) rfl (by kernel_rfl) (by kernel_rfl) (by kernel_rfl) (fun _ _ _ h => h) (Or.inl ⟨by kernel_rfl, ?_⟩) hS ?_
        rotate_left 1
        · intro w hT
          go_simp
          all_goals with_reducible rfl
        refine wpAnyH_take (i := 11) (v := ?_) rfl (by kernel_rfl) (by kernel_rfl) (by kernel_rfl) (fun _ _ _ h => h) (Or.inl ⟨by kernel_rfl, ?_⟩) hS ?_
        rotate_left 1
        · intro w hT
          go_simp
          all_goals with_reducible rfl
        refine wpAnyH_done (by kernel_rfl) ?_ _
        go_simp
        refine hm _ _ (Met.intro (hj _ _ ?_))
        repeat apply Exists.intro
        refine ⟨⟨rfl, rfl, gx, rfl, ⟨hS.b, fun x hx => ?_⟩⟩, rfl⟩
        rcases List.mem_cons.1 hx with rfl | hx
        · exact hblk
        · exact hS.k x hx
    · skip
      have hgx := Blk.new Wd 28 #[.int .u32 0, .int .u32 0, .int .u32 0, .int .u32 0, .int .u32 0, .int .u32 0, .int .u32 0, .int .u32 0, .complex .f64 0 0, .complex .f64 0 0, .int .u32 0]
      have hbx := bl_new (Below.refl Wd.heap.size Wd) (.cells #[.int .u32 0, .int .u32 0, .int .u32 0, .int .u32 0, .int .u32 0, .int .u32 0, .int .u32 0, .int .u32 0, .complex .f64 0 0, .complex .f64 0 0, .int .u32 0] 28)
      have hgl : ∀ x ∈ [(g8, c2), (g7, c1), (g6, (cpuAB a b))], x.1 ≠ Wd.heap.size := fun x hx => Nat.ne_of_lt (hS.k x hx).lt
      have hgw : w.heap.size ≤ Wd.heap.size := hS.b.size
      go_simp
      refine hK.out _ _ (hS.below hbx) (fun hS => ?_)
      clear hK K hbx
      generalize hwa : Wd.alloc (.cells #[.int .u32 0, .int .u32 0, .int .u32 0, .int .u32 0, .int .u32 0, .int .u32 0, .int .u32 0, .int .u32 0, .complex .f64 0 0, .complex .f64 0 0, .int .u32 0] 28) = Wa at *
      generalize Wd.heap.size = gx at *
      refine wpAnyH_ready (rs := [1]) (by kernel_rfl) (by simp) ?_
      refine AllReadyH.cons rfl (fun K hK => ?_) AllReadyH.nil
      go_simp
      refine (Hp3.out _ hS.b).mono ?_
      rintro e W1 ⟨⟨g, A, B, cap, rfl, hM, hg, hB, hBl⟩, hb⟩
      have hBw : w.heap.size ≤ B := Nat.le_trans hS.b.size hB
      have hnB : ∀ x ∈ [(g8, c2), (g7, c1), (g6, (cpuAB a b))], x.1 ≠ B := fun x hx => Nat.ne_of_lt (Nat.lt_of_lt_of_le (hS.k x hx).lt hB)
      have hgB : gx ≠ B := Nat.ne_of_lt (Nat.lt_of_lt_of_le hgx.lt hB)
      have hgx := hgx.below hb hgx.lt
      refine hK.out _ _ (hS.below hb) (fun hS => ?_)
      clear hK K hb hg hB
      refine wpAnyH_take (i := 2) (v := ?_) rfl (by kernel_rfl) (by kernel_rfl) (by kernel_rfl) (fun _ _ _ h => h) (Or.inl ⟨by kernel_rfl, ?_⟩) hS ?_
      rotate_left 1
      · intro w hT
        go_simp
        all_goals with_reducible rfl
      refine wpAnyH_ready (rs := [3]) (by kernel_rfl) (by simp) ?_
      refine AllReadyH.cons rfl (fun K hK => ?_) AllReadyH.nil
      have hrun := HR.out W1 hS.b g A B cap _ hM hBl hBw (cpuAB a b) HOK.out 5 (by decide)
      rw [show ((5 : Int)).toNat = 5 from rfl, RE.out] at hrun
      have HRUN := Lib.hid (show Calls Tryd.prog 9 #[.agg #[.int .u32 ((cpuAB a b).r 0), .int .u32 ((cpuAB a b).r 1), .int .u32 ((cpuAB a b).r 2), .int .u32 ((cpuAB a b).r 3), .int .u32 ((cpuAB a b).r 4), .int .u32 ((cpuAB a b).r 5), .int .u32 ((cpuAB a b).r 6), .int .u32 ((cpuAB a b).r 7), .complex .f64 ((cpuAB a b).z 0).1 ((cpuAB a b).z 0).2, .complex .f64 ((cpuAB a b).z 1).1 ((cpuAB a b).z 1).2, .int .u32 (cpuAB a b).pc], .iface 31 (.pointer (some ⟨g, 0, none⟩)), .int .i64 5] W1 fun e w' => e = .returned (.tuple #[.agg #[.int .u32 (c3.r 0), .int .u32 (c3.r 1), .int .u32 (c3.r 2), .int .u32 (c3.r 3), .int .u32 (c3.r 4), .int .u32 (c3.r 5), .int .u32 (c3.r 6), .int .u32 (c3.r 7), .complex .f64 (c3.z 0).1 (c3.z 0).2, .complex .f64 (c3.z 1).1 (c3.z 1).2, .int .u32 c3.pc], .int .i64 5, .int .i64 0]) ∧ RamAt w' g A B cap _ ∧ But (fun k => k = B) W1 w' from hrun)
      clear hrun
      go_simp
      refine HRUN.out.mono ?_
      rintro e W2 ⟨rfl, hm2, hb2⟩
      have hgx := hgx.but hb2 hgB
      refine hK.out _ _ (hS.but hb2 hnB hBw) (fun hS => ?_)
      clear hK K hm2 hb2 HRUN hM hBl hBw hnB
      refine wpAnyH_take (i := 4) (v := ?_) rfl (by kernel_rfl) (by kernel_rfl) (by kernel_rfl) (fun _ _ _ h => h) (Or.inl ⟨by kernel_rfl, ?_⟩) hS ?_
      rotate_left 1
      · intro w hT
        go_simp
        all_goals with_reducible rfl
      refine wpAnyH_take (i := 5) (v := ?_) rfl (by kernel_rfl) (by kernel_rfl) (by kernel_rfl) (fun _ _ _ h => h) (Or.inl ⟨by kernel_rfl, ?_⟩) hS ?_
      rotate_left 1
      · intro w hT
        go_simp
        all_goals with_reducible rfl
      refine wpAnyH_take (i := 6) (v := ?_) rfl (by kernel_rfl) (by kernel_rfl) (by kernel_rfl) (fun _ _ _ h => h) (Or.inl ⟨by kernel_rfl, ?_⟩) hS ?_
      rotate_left 1
      · intro w hT
        go_simp
        all_goals with_reducible rfl
      refine wpAnyH_take (i := 7) (v := ?_) rfl (by kernel_rfl) (by kernel_rfl) (by kernel_rfl) (fun _ _ _ h => h) (Or.inl ⟨by kernel_rfl, ?_⟩) hS ?_
      rotate_left 1
      · intro w hT
        go_simp
        all_goals with_reducible rfl
      refine wpAnyH_ready (rs := [9]) (by kernel_rfl) (by simp) ?_
      refine AllReadyH.cons rfl (fun K hK => ?_) AllReadyH.nil
      have r0 := (row11 hgx).1
      have r1 := (row11 hgx).2.1
      have r2 := (row11 hgx).2.2.1
      have r3 := (row11 hgx).2.2.2.1
      have r4 := (row11 hgx).2.2.2.2.1
      have r5 := (row11 hgx).2.2.2.2.2.1
      have r6 := (row11 hgx).2.2.2.2.2.2.1
      have r7 := (row11 hgx).2.2.2.2.2.2.2.1
      have r8 := (row11 hgx).2.2.2.2.2.2.2.2.1
      have r9 := (row11 hgx).2.2.2.2.2.2.2.2.2.1
      have r10 := (row11 hgx).2.2.2.2.2.2.2.2.2.2.1
      have rlt := (row11 hgx).2.2.2.2.2.2.2.2.2.2.2
      have rf0 := hgx.frozen 0
      have rf1 := hgx.frozen 1
      have rf2 := hgx.frozen 2
      have rf3 := hgx.frozen 3
      have rf4 := hgx.frozen 4
      have rf5 := hgx.frozen 5
      have rf6 := hgx.frozen 6
      have rf7 := hgx.frozen 7
      have rf8 := hgx.frozen 8
      have rf9 := hgx.frozen 9
      have rf10 := hgx.frozen 10
      have hbt := set11_but (S := fun k => k = gx) (g := gx) (But.refl _ W2) (.inl rfl) (.int .u32 (c3.r 0)) (.int .u32 (c3.r 1)) (.int .u32 (c3.r 2)) (.int .u32 (c3.r 3)) (.int .u32 (c3.r 4)) (.int .u32 (c3.r 5)) (.int .u32 (c3.r 6)) (.int .u32 (c3.r 7)) (.complex .f64 (c3.z 0).1 (c3.z 0).2) (.complex .f64 (c3.z 1).1 (c3.z 1).2) (.int .u32 c3.pc)
      have hblk := set11_blk hgx (.int .u32 (c3.r 0)) (.int .u32 (c3.r 1)) (.int .u32 (c3.r 2)) (.int .u32 (c3.r 3)) (.int .u32 (c3.r 4)) (.int .u32 (c3.r 5)) (.int .u32 (c3.r 6)) (.int .u32 (c3.r 7)) (.complex .f64 (c3.z 0).1 (c3.z 0).2) (.complex .f64 (c3.z 1).1 (c3.z 1).2) (.int .u32 c3.pc)
      go_simp
      refine hK.out _ _ (hS.but hbt hgl hgw) (fun hS => ?_)
      clear hK K r0 r1 r2 r3 r4 r5 r6 r7 r8 r9 r10 rf0 rf1 rf2 rf3 rf4 rf5 rf6 rf7 rf8 rf9 rf10
      refine wpAnyH_take (i := 10) (v := ?_) rfl (by kernel_rfl) (by kernel_rfl) (by kernel_rfl) (fun _ _ _ h => h) (Or.inl ⟨by kernel_rfl, ?_⟩) hS ?_
      rotate_left 1
      · intro w hT
        go_simp
        all_goals with_reducible rfl
      refine wpAnyH_take (i := 11) (v := ?_) rfl (by kernel_rfl) (by kernel_rfl) (by kernel_rfl) (fun _ _ _ h => h) (Or.inl ⟨by kernel_rfl, ?_⟩) hS ?_
      rotate_left 1
      · intro w hT
        go_simp
        all_goals with_reducible rfl
      refine wpAnyH_done (by kernel_rfl) ?_ _
      go_simp
      refine hm _ _ (Met.intro (hj _ _ ?_))
      repeat apply Exists.intro
      refine ⟨⟨rfl, rfl, gx, rfl, ⟨hS.b, fun x hx => ?_⟩⟩, rfl⟩
      rcases List.mem_cons.1 hx with rfl | hx
      · exact hblk
      · exact hS.k x hx
  case rest =>
  obtain ⟨rfl, rfl, g9, rfl, hkb⟩ := hcut
  go_wp2_with (fail)
  obtain ⟨hx0, hx1, hx2⟩ := i16_in a
  have hxw : wrap64 (IntKind.i16.wrap a) = IntKind.i16.wrap a := by simp only [wrap64]; omega
  rw [hxw]
  clear hxw
  generalize IntKind.i16.wrap a = x at *
  obtain ⟨st1, hst1⟩ : ∃ st : ByteArray, st = ⟨(I.lineI (li x)).toArray⟩ := ⟨_, rfl⟩
  have hl1 := I.lineI_yes (w := wc) (HGR.out wc hkb.b) 1 5 0 x (may_li hx0 hx1).1
  have HL1 := Lib.hid (show Calls Tryd.prog 11 #[.agg #[.int .i64 1, .int .i64 5, .int .i64 0, .int .i64 x]] wc fun e w' => e = .returned (.tuple #[.string st1, .int .i64 0]) ∧ Below wc.heap.size wc w' from by rw [hst1]; exact hl1)
  have HST1 := Lib.hid hst1
  clear hl1 hst1
  refine HL1.out.mono ?_
  rintro e Wa ⟨rfl, hba⟩
  have hkb := hkb.below hba
  clear hba
  go_wp2_with (fail)
  obtain ⟨hy0, hy1, hy2⟩ := i16_in (a / 65536)
  have hyw : wrap64 (IntKind.i16.wrap (a / 65536)) = IntKind.i16.wrap (a / 65536) := by simp only [wrap64]; omega
  rw [hyw]
  clear hyw
  generalize IntKind.i16.wrap (a / 65536) = y at *
  obtain ⟨st2, hst2⟩ : ∃ st : ByteArray, st = ⟨(I.lineI (lui y)).toArray⟩ := ⟨_, rfl⟩
  have hl2 := I.lineI_yes (w := Wa) (HGR.out Wa hkb.b) 2 5 0 y (may_li hy0 hy1).2
  have HL2 := Lib.hid (show Calls Tryd.prog 11 #[.agg #[.int .i64 2, .int .i64 5, .int .i64 0, .int .i64 y]] Wa fun e w' => e = .returned (.tuple #[.string st2, .int .i64 0]) ∧ Below Wa.heap.size Wa w' from by rw [hst2]; exact hl2)
  have har := HAR.out
  have hey : y % 65536 = a / 65536 := by omega
  obtain ⟨c4, ri, rj⟩ := sum4 (b := b) har ⟨hx0, hx1⟩ ⟨hy0, hy1⟩ hx2 hey
  have RI := Lib.hid ri
  have RJ := Lib.hid rj
  have hz1 : st1.size ≤ 80 := by rw [HST1.out]; show (I.lineI (li x)).toArray.size ≤ 80; rw [List.size_toArray]; exact I.lineI_len (may_li hx0 hx1).1
  have hz2 : st2.size ≤ 80 := by rw [hst2]; show (I.lineI (lui y)).toArray.size ≤ 80; rw [List.size_toArray]; exact I.lineI_len (may_li hy0 hy1).2
  have htl : toL (st1 ++ ⟨#[10]⟩ ++ st2 ++ ⟨#[10]⟩) = I.lineI (li x) ++ [10] ++ I.lineI (lui y) ++ [10] := by
    unfold toL
    rw [ByteArray.data_append, ByteArray.data_append, ByteArray.data_append, Array.toList_append, Array.toList_append, Array.toList_append, HST1.out, hst2]
  have hsz : (st1 ++ ⟨#[10]⟩ ++ st2 ++ ⟨#[10]⟩ : ByteArray).size ≤ 1000000 := by
    rw [ByteArray.size_append, ByteArray.size_append, ByteArray.size_append]
    show st1.size + 1 + st2.size + 1 ≤ 1000000
    omega
  have Hp4 := Lib.hid (fun W (hW : Below w.heap.size w W) => ram_any (HGR.out W hW) (st1 ++ ⟨#[10]⟩ ++ st2 ++ ⟨#[10]⟩) hsz (ws := [I.encI (li x), I.encI (lui y)]) (n := 0) (er := 0) (by rw [htl]; exact text4 ⟨hx0, hx1⟩ ⟨hy0, hy1⟩)
    (fun i z hz => by
      have h1 := I.encI_range (may_li hx0 hx1).1
      have h2 := I.encI_range (may_li hy0 hy1).2
      unfold I.RangeW at h1 h2
      have hm := List.mem_of_getElem? hz
      simp only [List.mem_cons, List.not_mem_nil, or_false] at hm
      rcases hm with rfl | rfl
      · exact ⟨h1.1, Int.le_of_lt_add_one h1.2⟩
      · exact ⟨h2.1, Int.le_of_lt_add_one h2.2⟩) (by simp) (by show 2 ≤ 100000; omega))
  clear hl2 hst2 ri rj htl hsz hx0 hx1 hx2 hy0 hy1 hey har
  refine HL2.out.mono ?_
  rintro e Wb ⟨rfl, hbb⟩
  have hkb := hkb.below hbb
  clear hbb HL1 HL2
  have hn1 : ¬ 9223372036854775807 < st1.size + 1 := by omega
  have hn2 : ¬ 9223372036854775807 < st1.size + 1 + st2.size := by omega
  have hn3 : ¬ 9223372036854775807 < st1.size + 1 + st2.size + 1 := by omega
  go_upto_region 8 with (fail)
  go_cut [20, 21, 22] from 72 to 84 (fun pp nn tt wx => nn = .int .i64 2 ∧ tt = .int .i64 0 ∧ ∃ gx, pp = .pointer (some ⟨gx, 0, none⟩) ∧ KB w ((gx, c4) :: [(g9, c3), (g8, c2), (g7, c1), (g6, (cpuAB a b))]) wx)
  case first =>
    rename_i hj hm
    refine wp_region_held_drew (S := fun W => KB w [(g9, c3), (g8, c2), (g7, c1), (g6, (cpuAB a b))] W) (by kernel_rfl) (hkb.below (Below.refl _ _).drew) (fun hS => ?_)
    generalize Wb.drew = Wd at *
    refine wpAnyH_take (i := 0) (v := ?_) rfl (by kernel_rfl) (by kernel_rfl) (by kernel_rfl) (fun _ _ _ h => h) (Or.inl ⟨by kernel_rfl, ?_⟩) hS ?_
    rotate_left 1
    · intro w hT
      obtain ⟨x0, x1, x2, x3, x4, x5, x6, x7, x8, x9, x10, xlt⟩ := cp_all (hT.k (g6, (cpuAB a b)) (by simp))
      go_simp
      all_goals with_reducible rfl
    refine wpAnyH_take (i := 1) (v := ?_) rfl (by kernel_rfl) (by kernel_rfl) (by kernel_rfl) (fun _ _ _ h => h) (Or.inl ⟨by kernel_rfl, ?_⟩) hS ?_
    rotate_left 1
    · intro w hT
      go_simp
      all_goals with_reducible rfl
    refine wpAnyH_take (i := 2) (v := ?_) rfl (by kernel_rfl) (by kernel_rfl) (by kernel_rfl) (fun _ _ _ h => h) (Or.inl ⟨by kernel_rfl, ?_⟩) hS ?_
    rotate_left 1
    · intro w hT
      go_simp
      all_goals with_reducible rfl
    refine wpAnyH_take (i := 3) (v := ?_) rfl (by kernel_rfl) (by kernel_rfl) (by kernel_rfl) (fun _ _ _ h => h) (Or.inl ⟨by kernel_rfl, ?_⟩) hS ?_
    rotate_left 1
    · intro w hT
      go_simp
      all_goals with_reducible rfl
    refine wpAnyH_take (i := 4) (v := ?_) rfl (by kernel_rfl) (by kernel_rfl) (by kernel_rfl) (fun _ _ _ h => h) (Or.inl ⟨by kernel_rfl, ?_⟩) hS ?_
    rotate_left 1
    · intro w hT
      go_simp
      all_goals with_reducible rfl
    refine wpAnyH_take (i := 5) (v := ?_) rfl (by kernel_rfl) (by kernel_rfl) (by kernel_rfl) (fun _ _ _ h => h) (Or.inl ⟨by kernel_rfl, ?_⟩) hS ?_
    rotate_left 1
    · intro w hT
      go_simp
      all_goals with_reducible rfl
    refine wpAnyH_ready (rs := [6, 13]) (by kernel_rfl) (by simp) ?_
    refine AllReadyH.cons rfl (fun K hK => ?_) (AllReadyH.cons rfl (fun K hK => ?_) AllReadyH.nil)
    · skip
      go_simp
      refine (Hp4.out _ hS.b).mono ?_
      rintro e W1 ⟨⟨g, A, B, cap, rfl, hM, hg, hB, hBl⟩, hb⟩
      have hBw : w.heap.size ≤ B := Nat.le_trans hS.b.size hB
      have hnB : ∀ x ∈ [(g9, c3), (g8, c2), (g7, c1), (g6, (cpuAB a b))], x.1 ≠ B := fun x hx => Nat.ne_of_lt (Nat.lt_of_lt_of_le (hS.k x hx).lt hB)
      refine hK.out _ _ (hS.below hb) (fun hS => ?_)
      clear hK K hb hg hB
      refine wpAnyH_take (i := 7) (v := ?_) rfl (by kernel_rfl) (by kernel_rfl) (by kernel_rfl) (fun _ _ _ h => h) (Or.inl ⟨by kernel_rfl, ?_⟩) hS ?_
      rotate_left 1
      · intro w hT
        go_simp
        all_goals with_reducible rfl
      refine wpAnyH_ready (rs := [8, 13]) (by kernel_rfl) (by simp) ?_
      refine AllReadyH.cons rfl (fun K hK => ?_) (AllReadyH.cons rfl (fun K hK => ?_) AllReadyH.nil)
      · skip
        have hrun := HR.out W1 hS.b g A B cap _ hM hBl hBw (cpuAB a b) HOK.out 2 (by decide)
        rw [show ((2 : Int)).toNat = 2 from rfl, RI.out] at hrun
        have HRUN := Lib.hid (show Calls Tryd.prog 9 #[.agg #[.int .u32 ((cpuAB a b).r 0), .int .u32 ((cpuAB a b).r 1), .int .u32 ((cpuAB a b).r 2), .int .u32 ((cpuAB a b).r 3), .int .u32 ((cpuAB a b).r 4), .int .u32 ((cpuAB a b).r 5), .int .u32 ((cpuAB a b).r 6), .int .u32 ((cpuAB a b).r 7), .complex .f64 ((cpuAB a b).z 0).1 ((cpuAB a b).z 0).2, .complex .f64 ((cpuAB a b).z 1).1 ((cpuAB a b).z 1).2, .int .u32 (cpuAB a b).pc], .iface 31 (.pointer (some ⟨g, 0, none⟩)), .int .i64 2] W1 fun e w' => e = .returned (.tuple #[.agg #[.int .u32 (c4.r 0), .int .u32 (c4.r 1), .int .u32 (c4.r 2), .int .u32 (c4.r 3), .int .u32 (c4.r 4), .int .u32 (c4.r 5), .int .u32 (c4.r 6), .int .u32 (c4.r 7), .complex .f64 (c4.z 0).1 (c4.z 0).2, .complex .f64 (c4.z 1).1 (c4.z 1).2, .int .u32 c4.pc], .int .i64 2, .int .i64 0]) ∧ RamAt w' g A B cap _ ∧ But (fun k => k = B) W1 w' from hrun)
        clear hrun
        go_simp
        refine HRUN.out.mono ?_
        rintro e W2 ⟨rfl, hm2, hb2⟩
        refine hK.out _ _ (hS.but hb2 hnB hBw) (fun hS => ?_)
        clear hK K hm2 hb2 HRUN hM hBl hBw hnB
        refine wpAnyH_take (i := 9) (v := ?_) rfl (by kernel_rfl) (by kernel_rfl) (by kernel_rfl) (fun _ _ _ h => h) (Or.inl ⟨by kernel_rfl, ?_⟩) hS ?_
        rotate_left 1
        · intro w hT
          go_simp
          all_goals with_reducible rfl
        refine wpAnyH_take (i := 10) (v := ?_) rfl (by kernel_rfl) (by kernel_rfl) (by kernel_rfl) (fun _ _ _ h => h) (Or.inl ⟨by kernel_rfl, ?_⟩) hS ?_
        rotate_left 1
        · intro w hT
          go_simp
          all_goals with_reducible rfl
        refine wpAnyH_take (i := 11) (v := ?_) rfl (by kernel_rfl) (by kernel_rfl) (by kernel_rfl) (fun _ _ _ h => h) (Or.inl ⟨by kernel_rfl, ?_⟩) hS ?_
        rotate_left 1
        · intro w hT
          go_simp
          all_goals with_reducible rfl
        refine wpAnyH_take (i := 12) (v := ?_) rfl (by kernel_rfl) (by kernel_rfl) (by kernel_rfl) (fun _ _ _ h => h) (Or.inl ⟨by kernel_rfl, ?_⟩) hS ?_
        rotate_left 1
        · intro w hT
          go_simp
          all_goals with_reducible rfl
        refine wpAnyH_ready (rs := [13]) (by kernel_rfl) (by simp) ?_
        refine AllReadyH.cons rfl (fun K hK => ?_) AllReadyH.nil
        have hgx := Blk.new W2 28 #[.int .u32 0, .int .u32 0, .int .u32 0, .int .u32 0, .int .u32 0, .int .u32 0, .int .u32 0, .int .u32 0, .complex .f64 0 0, .complex .f64 0 0, .int .u32 0]
        have hbx := bl_new (Below.refl W2.heap.size W2) (.cells #[.int .u32 0, .int .u32 0, .int .u32 0, .int .u32 0, .int .u32 0, .int .u32 0, .int .u32 0, .int .u32 0, .complex .f64 0 0, .complex .f64 0 0, .int .u32 0] 28)
        have hgl : ∀ x ∈ [(g9, c3), (g8, c2), (g7, c1), (g6, (cpuAB a b))], x.1 ≠ W2.heap.size := fun x hx => Nat.ne_of_lt (hS.k x hx).lt
        have hgw : w.heap.size ≤ W2.heap.size := hS.b.size
        go_simp
        refine hK.out _ _ (hS.below hbx) (fun hS => ?_)
        clear hK K hbx
        generalize hwa : W2.alloc (.cells #[.int .u32 0, .int .u32 0, .int .u32 0, .int .u32 0, .int .u32 0, .int .u32 0, .int .u32 0, .int .u32 0, .complex .f64 0 0, .complex .f64 0 0, .int .u32 0] 28) = Wa at *
        generalize W2.heap.size = gx at *
        refine wpAnyH_ready (rs := [14]) (by kernel_rfl) (by simp) ?_
        refine AllReadyH.cons rfl (fun K hK => ?_) AllReadyH.nil
        have r0 := (row11 hgx).1
        have r1 := (row11 hgx).2.1
        have r2 := (row11 hgx).2.2.1
        have r3 := (row11 hgx).2.2.2.1
        have r4 := (row11 hgx).2.2.2.2.1
        have r5 := (row11 hgx).2.2.2.2.2.1
        have r6 := (row11 hgx).2.2.2.2.2.2.1
        have r7 := (row11 hgx).2.2.2.2.2.2.2.1
        have r8 := (row11 hgx).2.2.2.2.2.2.2.2.1
        have r9 := (row11 hgx).2.2.2.2.2.2.2.2.2.1
        have r10 := (row11 hgx).2.2.2.2.2.2.2.2.2.2.1
        have rlt := (row11 hgx).2.2.2.2.2.2.2.2.2.2.2
        have rf0 := hgx.frozen 0
        have rf1 := hgx.frozen 1
        have rf2 := hgx.frozen 2
        have rf3 := hgx.frozen 3
        have rf4 := hgx.frozen 4
        have rf5 := hgx.frozen 5
        have rf6 := hgx.frozen 6
        have rf7 := hgx.frozen 7
        have rf8 := hgx.frozen 8
        have rf9 := hgx.frozen 9
        have rf10 := hgx.frozen 10
        have hbt := set11_but (S := fun k => k = gx) (g := gx) (But.refl _ Wa) (.inl rfl) (.int .u32 (c4.r 0)) (.int .u32 (c4.r 1)) (.int .u32 (c4.r 2)) (.int .u32 (c4.r 3)) (.int .u32 (c4.r 4)) (.int .u32 (c4.r 5)) (.int .u32 (c4.r 6)) (.int .u32 (c4.r 7)) (.complex .f64 (c4.z 0).1 (c4.z 0).2) (.complex .f64 (c4.z 1).1 (c4.z 1).2) (.int .u32 c4.pc)
        have hblk := set11_blk hgx (.int .u32 (c4.r 0)) (.int .u32 (c4.r 1)) (.int .u32 (c4.r 2)) (.int .u32 (c4.r 3)) (.int .u32 (c4.r 4)) (.int .u32 (c4.r 5)) (.int .u32 (c4.r 6)) (.int .u32 (c4.r 7)) (.complex .f64 (c4.z 0).1 (c4.z 0).2) (.complex .f64 (c4.z 1).1 (c4.z 1).2) (.int .u32 c4.pc)
        go_simp
        refine hK.out _ _ (hS.but hbt hgl hgw) (fun hS => ?_)
        clear hK K r0 r1 r2 r3 r4 r5 r6 r7 r8 r9 r10 rf0 rf1 rf2 rf3 rf4 rf5 rf6 rf7 rf8 rf9 rf10
        refine wpAnyH_take (i := 15) (v := ?_) rfl (by kernel_rfl) (by kernel_rfl) (by kernel_rfl) (fun _ _ _ h => h) (Or.inl ⟨by kernel_rfl, ?_⟩) hS ?_
        rotate_left 1
        · intro w hT
          go_simp
          all_goals with_reducible rfl
        refine wpAnyH_take (i := 16) (v := ?_) rfl (by kernel_rfl) (by kernel_rfl) (by kernel_rfl) (fun _ _ _ h => h) (Or.inl ⟨by kernel_rfl, ?_⟩) hS ?_
        rotate_left 1
        · intro w hT
          go_simp
          all_goals with_reducible rfl
        refine wpAnyH_done (by kernel_rfl) ?_ _
        go_simp
        refine hm _ _ (Met.intro (hj _ _ ?_))
        repeat apply Exists.intro
        refine ⟨⟨rfl, rfl, gx, rfl, ⟨hS.b, fun x hx => ?_⟩⟩, rfl⟩
        rcases List.mem_cons.1 hx with rfl | hx
        · exact hblk
        · exact hS.k x hx
      · skip
        have hgx := Blk.new W1 28 #[.int .u32 0, .int .u32 0, .int .u32 0, .int .u32 0, .int .u32 0, .int .u32 0, .int .u32 0, .int .u32 0, .complex .f64 0 0, .complex .f64 0 0, .int .u32 0]
        have hbx := bl_new (Below.refl W1.heap.size W1) (.cells #[.int .u32 0, .int .u32 0, .int .u32 0, .int .u32 0, .int .u32 0, .int .u32 0, .int .u32 0, .int .u32 0, .complex .f64 0 0, .complex .f64 0 0, .int .u32 0] 28)
        have hgl : ∀ x ∈ [(g9, c3), (g8, c2), (g7, c1), (g6, (cpuAB a b))], x.1 ≠ W1.heap.size := fun x hx => Nat.ne_of_lt (hS.k x hx).lt
        have hgw : w.heap.size ≤ W1.heap.size := hS.b.size
        have hMa := hM.below hbx
        have hgB : W1.heap.size ≠ B := Nat.ne_of_gt hBl
        have hBla := Nat.lt_of_lt_of_le hBl hbx.size
        clear hM hBl
        go_simp
        refine hK.out _ _ (hS.below hbx) (fun hS => ?_)
        clear hK K hbx
        generalize hwa : W1.alloc (.cells #[.int .u32 0, .int .u32 0, .int .u32 0, .int .u32 0, .int .u32 0, .int .u32 0, .int .u32 0, .int .u32 0, .complex .f64 0 0, .complex .f64 0 0, .int .u32 0] 28) = Wa at *
        generalize W1.heap.size = gx at *
        refine wpAnyH_ready (rs := [8]) (by kernel_rfl) (by simp) ?_
        refine AllReadyH.cons rfl (fun K hK => ?_) AllReadyH.nil
        have hrun := HR.out Wa hS.b g A B cap _ hMa hBla hBw (cpuAB a b) HOK.out 2 (by decide)
        rw [show ((2 : Int)).toNat = 2 from rfl, RI.out] at hrun
        have HRUN := Lib.hid (show Calls Tryd.prog 9 #[.agg #[.int .u32 ((cpuAB a b).r 0), .int .u32 ((cpuAB a b).r 1), .int .u32 ((cpuAB a b).r 2), .int .u32 ((cpuAB a b).r 3), .int .u32 ((cpuAB a b).r 4), .int .u32 ((cpuAB a b).r 5), .int .u32 ((cpuAB a b).r 6), .int .u32 ((cpuAB a b).r 7), .complex .f64 ((cpuAB a b).z 0).1 ((cpuAB a b).z 0).2, .complex .f64 ((cpuAB a b).z 1).1 ((cpuAB a b).z 1).2, .int .u32 (cpuAB a b).pc], .iface 31 (.pointer (some ⟨g, 0, none⟩)), .int .i64 2] Wa fun e w' => e = .returned (.tuple #[.agg #[.int .u32 (c4.r 0), .int .u32 (c4.r 1), .int .u32 (c4.r 2), .int .u32 (c4.r 3), .int .u32 (c4.r 4), .int .u32 (c4.r 5), .int .u32 (c4.r 6), .int .u32 (c4.r 7), .complex .f64 (c4.z 0).1 (c4.z 0).2, .complex .f64 (c4.z 1).1 (c4.z 1).2, .int .u32 c4.pc], .int .i64 2, .int .i64 0]) ∧ RamAt w' g A B cap _ ∧ But (fun k => k = B) Wa w' from hrun)
        clear hrun
        go_simp
        refine HRUN.out.mono ?_
        rintro e W2 ⟨rfl, hm2, hb2⟩
        have hgx := hgx.but hb2 hgB
        refine hK.out _ _ (hS.but hb2 hnB hBw) (fun hS => ?_)
        clear hK K hm2 hb2 HRUN hMa hBla hBw hnB
        refine wpAnyH_take (i := 9) (v := ?_) rfl (by kernel_rfl) (by kernel_rfl) (by kernel_rfl) (fun _ _ _ h => h) (Or.inl ⟨by kernel_rfl, ?_⟩) hS ?_
        rotate_left 1
        · intro w hT
          go_simp
          all_goals with_reducible rfl
        refine wpAnyH_take (i := 10) (v := ?_) rfl (by kernel_rfl) (by kernel_rfl) (by kernel_rfl) (fun _ _ _ h => h) (Or.inl ⟨by kernel_rfl, ?_⟩) hS ?_
        rotate_left 1
        · intro w hT
          go_simp
          all_goals with_reducible rfl
        refine wpAnyH_take (i := 11) (v := ?_) rfl (by kernel_rfl) (by kernel_rfl) (by kernel_rfl) (fun _ _ _ h => h) (Or.inl ⟨by kernel_rfl, ?_⟩) hS ?_
        rotate_left 1
        · intro w hT
          go_simp
          all_goals with_reducible rfl
        refine wpAnyH_take (i := 12) (v := ?_) rfl (by kernel_rfl) (by kernel_rfl) (by kernel_rfl) (fun _ _ _ h => h) (Or.inl ⟨by kernel_rfl, ?_⟩) hS ?_
        rotate_left 1
        · intro w hT
          go_simp
          all_goals with_reducible rfl
        refine wpAnyH_ready (rs := [14]) (by kernel_rfl) (by simp) ?_
        refine AllReadyH.cons rfl (fun K hK => ?_) AllReadyH.nil
        have r0 := (row11 hgx).1
        have r1 := (row11 hgx).2.1
        have r2 := (row11 hgx).2.2.1
        have r3 := (row11 hgx).2.2.2.1
        have r4 := (row11 hgx).2.2.2.2.1
        have r5 := (row11 hgx).2.2.2.2.2.1
        have r6 := (row11 hgx).2.2.2.2.2.2.1
        have r7 := (row11 hgx).2.2.2.2.2.2.2.1
        have r8 := (row11 hgx).2.2.2.2.2.2.2.2.1
        have r9 := (row11 hgx).2.2.2.2.2.2.2.2.2.1
        have r10 := (row11 hgx).2.2.2.2.2.2.2.2.2.2.1
        have rlt := (row11 hgx).2.2.2.2.2.2.2.2.2.2.2
        have rf0 := hgx.frozen 0
        have rf1 := hgx.frozen 1
        have rf2 := hgx.frozen 2
        have rf3 := hgx.frozen 3
        have rf4 := hgx.frozen 4
        have rf5 := hgx.frozen 5
        have rf6 := hgx.frozen 6
        have rf7 := hgx.frozen 7
        have rf8 := hgx.frozen 8
        have rf9 := hgx.frozen 9
        have rf10 := hgx.frozen 10
        have hbt := set11_but (S := fun k => k = gx) (g := gx) (But.refl _ W2) (.inl rfl) (.int .u32 (c4.r 0)) (.int .u32 (c4.r 1)) (.int .u32 (c4.r 2)) (.int .u32 (c4.r 3)) (.int .u32 (c4.r 4)) (.int .u32 (c4.r 5)) (.int .u32 (c4.r 6)) (.int .u32 (c4.r 7)) (.complex .f64 (c4.z 0).1 (c4.z 0).2) (.complex .f64 (c4.z 1).1 (c4.z 1).2) (.int .u32 c4.pc)
        have hblk := set11_blk hgx (.int .u32 (c4.r 0)) (.int .u32 (c4.r 1)) (.int .u32 (c4.r 2)) (.int .u32 (c4.r 3)) (.int .u32 (c4.r 4)) (.int .u32 (c4.r 5)) (.int .u32 (c4.r 6)) (.int .u32 (c4.r 7)) (.complex .f64 (c4.z 0).1 (c4.z 0).2) (.complex .f64 (c4.z 1).1 (c4.z 1).2) (.int .u32 c4.pc)
        go_simp
        refine hK.out _ _ (hS.but hbt hgl hgw) (fun hS => ?_)
        clear hK K r0 r1 r2 r3 r4 r5 r6 r7 r8 r9 r10 rf0 rf1 rf2 rf3 rf4 rf5 rf6 rf7 rf8 rf9 rf10
        refine wpAnyH_take (i := 15) (v := ?_) rfl (by kernel_rfl) (by kernel_rfl) (by kernel_rfl) (fun _ _ _ h => h) (Or.inl ⟨by kernel_rfl, ?_⟩) hS ?_
        rotate_left 1
        · intro w hT
          go_simp
          all_goals with_reducible rfl
        refine wpAnyH_take (i := 16) (v := ?_) rfl (by kernel_rfl) (by kernel_rfl) (by kernel_rfl) (fun _ _ _ h => h) (Or.inl ⟨by kernel_rfl, ?_⟩) hS ?_
        rotate_left 1
        · intro w hT
          go_simp
          all_goals with_reducible rfl
        refine wpAnyH_done (by kernel_rfl) ?_ _
        go_simp
        refine hm _ _ (Met.intro (hj _ _ ?_))
        repeat apply Exists.intro
        refine ⟨⟨rfl, rfl, gx, rfl, ⟨hS.b, fun x hx => ?_⟩⟩, rfl⟩
        rcases List.mem_cons.1 hx with rfl | hx
        · exact hblk
        · exact hS.k x hx
    · skip
      have hgx := Blk.new Wd 28 #[.int .u32 0, .int .u32 0, .int .u32 0, .int .u32 0, .int .u32 0, .int .u32 0, .int .u32 0, .int .u32 0, .complex .f64 0 0, .complex .f64 0 0, .int .u32 0]
      have hbx := bl_new (Below.refl Wd.heap.size Wd) (.cells #[.int .u32 0, .int .u32 0, .int .u32 0, .int .u32 0, .int .u32 0, .int .u32 0, .int .u32 0, .int .u32 0, .complex .f64 0 0, .complex .f64 0 0, .int .u32 0] 28)
      have hgl : ∀ x ∈ [(g9, c3), (g8, c2), (g7, c1), (g6, (cpuAB a b))], x.1 ≠ Wd.heap.size := fun x hx => Nat.ne_of_lt (hS.k x hx).lt
      have hgw : w.heap.size ≤ Wd.heap.size := hS.b.size
      go_simp
      refine hK.out _ _ (hS.below hbx) (fun hS => ?_)
      clear hK K hbx
      generalize hwa : Wd.alloc (.cells #[.int .u32 0, .int .u32 0, .int .u32 0, .int .u32 0, .int .u32 0, .int .u32 0, .int .u32 0, .int .u32 0, .complex .f64 0 0, .complex .f64 0 0, .int .u32 0] 28) = Wa at *
      generalize Wd.heap.size = gx at *
      refine wpAnyH_ready (rs := [6]) (by kernel_rfl) (by simp) ?_
      refine AllReadyH.cons rfl (fun K hK => ?_) AllReadyH.nil
      go_simp
      refine (Hp4.out _ hS.b).mono ?_
      rintro e W1 ⟨⟨g, A, B, cap, rfl, hM, hg, hB, hBl⟩, hb⟩
      have hBw : w.heap.size ≤ B := Nat.le_trans hS.b.size hB
      have hnB : ∀ x ∈ [(g9, c3), (g8, c2), (g7, c1), (g6, (cpuAB a b))], x.1 ≠ B := fun x hx => Nat.ne_of_lt (Nat.lt_of_lt_of_le (hS.k x hx).lt hB)
      have hgB : gx ≠ B := Nat.ne_of_lt (Nat.lt_of_lt_of_le hgx.lt hB)
      have hgx := hgx.below hb hgx.lt
      refine hK.out _ _ (hS.below hb) (fun hS => ?_)
      clear hK K hb hg hB
      refine wpAnyH_take (i := 7) (v := ?_) rfl (by kernel_rfl) (by kernel_rfl) (by kernel_rfl) (fun _ _ _ h => h) (Or.inl ⟨by kernel_rfl, ?_⟩) hS ?_
      rotate_left 1
      · intro w hT
        go_simp
        all_goals with_reducible rfl
      refine wpAnyH_ready (rs := [8]) (by kernel_rfl) (by simp) ?_
      refine AllReadyH.cons rfl (fun K hK => ?_) AllReadyH.nil
      have hrun := HR.out W1 hS.b g A B cap _ hM hBl hBw (cpuAB a b) HOK.out 2 (by decide)
      rw [show ((2 : Int)).toNat = 2 from rfl, RI.out] at hrun
      have HRUN := Lib.hid (show Calls Tryd.prog 9 #[.agg #[.int .u32 ((cpuAB a b).r 0), .int .u32 ((cpuAB a b).r 1), .int .u32 ((cpuAB a b).r 2), .int .u32 ((cpuAB a b).r 3), .int .u32 ((cpuAB a b).r 4), .int .u32 ((cpuAB a b).r 5), .int .u32 ((cpuAB a b).r 6), .int .u32 ((cpuAB a b).r 7), .complex .f64 ((cpuAB a b).z 0).1 ((cpuAB a b).z 0).2, .complex .f64 ((cpuAB a b).z 1).1 ((cpuAB a b).z 1).2, .int .u32 (cpuAB a b).pc], .iface 31 (.pointer (some ⟨g, 0, none⟩)), .int .i64 2] W1 fun e w' => e = .returned (.tuple #[.agg #[.int .u32 (c4.r 0), .int .u32 (c4.r 1), .int .u32 (c4.r 2), .int .u32 (c4.r 3), .int .u32 (c4.r 4), .int .u32 (c4.r 5), .int .u32 (c4.r 6), .int .u32 (c4.r 7), .complex .f64 (c4.z 0).1 (c4.z 0).2, .complex .f64 (c4.z 1).1 (c4.z 1).2, .int .u32 c4.pc], .int .i64 2, .int .i64 0]) ∧ RamAt w' g A B cap _ ∧ But (fun k => k = B) W1 w' from hrun)
      clear hrun
      go_simp
      refine HRUN.out.mono ?_
      rintro e W2 ⟨rfl, hm2, hb2⟩
      have hgx := hgx.but hb2 hgB
      refine hK.out _ _ (hS.but hb2 hnB hBw) (fun hS => ?_)
      clear hK K hm2 hb2 HRUN hM hBl hBw hnB
      refine wpAnyH_take (i := 9) (v := ?_) rfl (by kernel_rfl) (by kernel_rfl) (by kernel_rfl) (fun _ _ _ h => h) (Or.inl ⟨by kernel_rfl, ?_⟩) hS ?_
      rotate_left 1
      · intro w hT
        go_simp
        all_goals with_reducible rfl
      refine wpAnyH_take (i := 10) (v := ?_) rfl (by kernel_rfl) (by kernel_rfl) (by kernel_rfl) (fun _ _ _ h => h) (Or.inl ⟨by kernel_rfl, ?_⟩) hS ?_
      rotate_left 1
      · intro w hT
        go_simp
        all_goals with_reducible rfl
      refine wpAnyH_take (i := 11) (v := ?_) rfl (by kernel_rfl) (by kernel_rfl) (by kernel_rfl) (fun _ _ _ h => h) (Or.inl ⟨by kernel_rfl, ?_⟩) hS ?_
      rotate_left 1
      · intro w hT
        go_simp
        all_goals with_reducible rfl
      refine wpAnyH_take (i := 12) (v := ?_) rfl (by kernel_rfl) (by kernel_rfl) (by kernel_rfl) (fun _ _ _ h => h) (Or.inl ⟨by kernel_rfl, ?_⟩) hS ?_
      rotate_left 1
      · intro w hT
        go_simp
        all_goals with_reducible rfl
      refine wpAnyH_ready (rs := [14]) (by kernel_rfl) (by simp) ?_
      refine AllReadyH.cons rfl (fun K hK => ?_) AllReadyH.nil
      have r0 := (row11 hgx).1
      have r1 := (row11 hgx).2.1
      have r2 := (row11 hgx).2.2.1
      have r3 := (row11 hgx).2.2.2.1
      have r4 := (row11 hgx).2.2.2.2.1
      have r5 := (row11 hgx).2.2.2.2.2.1
      have r6 := (row11 hgx).2.2.2.2.2.2.1
      have r7 := (row11 hgx).2.2.2.2.2.2.2.1
      have r8 := (row11 hgx).2.2.2.2.2.2.2.2.1
      have r9 := (row11 hgx).2.2.2.2.2.2.2.2.2.1
      have r10 := (row11 hgx).2.2.2.2.2.2.2.2.2.2.1
      have rlt := (row11 hgx).2.2.2.2.2.2.2.2.2.2.2
      have rf0 := hgx.frozen 0
      have rf1 := hgx.frozen 1
      have rf2 := hgx.frozen 2
      have rf3 := hgx.frozen 3
      have rf4 := hgx.frozen 4
      have rf5 := hgx.frozen 5
      have rf6 := hgx.frozen 6
      have rf7 := hgx.frozen 7
      have rf8 := hgx.frozen 8
      have rf9 := hgx.frozen 9
      have rf10 := hgx.frozen 10
      have hbt := set11_but (S := fun k => k = gx) (g := gx) (But.refl _ W2) (.inl rfl) (.int .u32 (c4.r 0)) (.int .u32 (c4.r 1)) (.int .u32 (c4.r 2)) (.int .u32 (c4.r 3)) (.int .u32 (c4.r 4)) (.int .u32 (c4.r 5)) (.int .u32 (c4.r 6)) (.int .u32 (c4.r 7)) (.complex .f64 (c4.z 0).1 (c4.z 0).2) (.complex .f64 (c4.z 1).1 (c4.z 1).2) (.int .u32 c4.pc)
      have hblk := set11_blk hgx (.int .u32 (c4.r 0)) (.int .u32 (c4.r 1)) (.int .u32 (c4.r 2)) (.int .u32 (c4.r 3)) (.int .u32 (c4.r 4)) (.int .u32 (c4.r 5)) (.int .u32 (c4.r 6)) (.int .u32 (c4.r 7)) (.complex .f64 (c4.z 0).1 (c4.z 0).2) (.complex .f64 (c4.z 1).1 (c4.z 1).2) (.int .u32 c4.pc)
      go_simp
      refine hK.out _ _ (hS.but hbt hgl hgw) (fun hS => ?_)
      clear hK K r0 r1 r2 r3 r4 r5 r6 r7 r8 r9 r10 rf0 rf1 rf2 rf3 rf4 rf5 rf6 rf7 rf8 rf9 rf10
      refine wpAnyH_take (i := 15) (v := ?_) rfl (by kernel_rfl) (by kernel_rfl) (by kernel_rfl) (fun _ _ _ h => h) (Or.inl ⟨by kernel_rfl, ?_⟩) hS ?_
      rotate_left 1
      · intro w hT
        go_simp
        all_goals with_reducible rfl
      refine wpAnyH_take (i := 16) (v := ?_) rfl (by kernel_rfl) (by kernel_rfl) (by kernel_rfl) (fun _ _ _ h => h) (Or.inl ⟨by kernel_rfl, ?_⟩) hS ?_
      rotate_left 1
      · intro w hT
        go_simp
        all_goals with_reducible rfl
      refine wpAnyH_done (by kernel_rfl) ?_ _
      go_simp
      refine hm _ _ (Met.intro (hj _ _ ?_))
      repeat apply Exists.intro
      refine ⟨⟨rfl, rfl, gx, rfl, ⟨hS.b, fun x hx => ?_⟩⟩, rfl⟩
      rcases List.mem_cons.1 hx with rfl | hx
      · exact hblk
      · exact hS.k x hx
  case rest =>
  obtain ⟨rfl, rfl, g10, rfl, hkb⟩ := hcut
  go_upto_region 9 with (fail)
  go_cut [23, 24, 25] from 85 to 92 (fun pp nn tt wx => nn = .int .i64 8 ∧ tt = .int .i64 0 ∧ ∃ gx, pp = .pointer (some ⟨gx, 0, none⟩) ∧ KB w ((gx, c5) :: [(g10, c4), (g9, c3), (g8, c2), (g7, c1), (g6, (cpuAB a b))]) wx)
  case first =>
    rename_i hj hm
    refine wp_region_held_drew (S := fun W => KB w [(g10, c4), (g9, c3), (g8, c2), (g7, c1), (g6, (cpuAB a b))] W) (by kernel_rfl) (hkb.below (Below.refl _ _).drew) (fun hS => ?_)
    generalize wc.drew = Wd at *
    refine wpAnyH_take (i := 0) (v := ?_) rfl (by kernel_rfl) (by kernel_rfl) (by kernel_rfl) (fun _ _ _ h => h) (Or.inl ⟨by kernel_rfl, ?_⟩) hS ?_
    rotate_left 1
    · intro w hT
      obtain ⟨x0, x1, x2, x3, x4, x5, x6, x7, x8, x9, x10, xlt⟩ := cp_all (hT.k (g6, (cpuAB a b)) (by simp))
      go_simp
      all_goals with_reducible rfl
    refine wpAnyH_ready (rs := [1, 8]) (by kernel_rfl) (by simp) ?_
    refine AllReadyH.cons rfl (fun K hK => ?_) (AllReadyH.cons rfl (fun K hK => ?_) AllReadyH.nil)
    · skip
      go_simp
      refine (Hp5.out _ hS.b).mono ?_
      rintro e W1 ⟨⟨g, A, B, cap, rfl, hM, hg, hB, hBl⟩, hb⟩
      have hBw : w.heap.size ≤ B := Nat.le_trans hS.b.size hB
      have hnB : ∀ x ∈ [(g10, c4), (g9, c3), (g8, c2), (g7, c1), (g6, (cpuAB a b))], x.1 ≠ B := fun x hx => Nat.ne_of_lt (Nat.lt_of_lt_of_le (hS.k x hx).lt hB)
      refine hK.out _ _ (hS.below hb) (fun hS => ?_)
      clear hK K hb hg hB
      refine wpAnyH_take (i := 2) (v := ?_) rfl (by kernel_rfl) (by kernel_rfl) (by kernel_rfl) (fun _ _ _ h => h) (Or.inl ⟨by kernel_rfl, ?_⟩) hS ?_
      rotate_left 1
      · intro w hT
        go_simp
        all_goals with_reducible rfl
      refine wpAnyH_ready (rs := [3, 8]) (by kernel_rfl) (by simp) ?_
      refine AllReadyH.cons rfl (fun K hK => ?_) (AllReadyH.cons rfl (fun K hK => ?_) AllReadyH.nil)
      · skip
        have hrun := HR.out W1 hS.b g A B cap _ hM hBl hBw (cpuAB a b) HOK.out 8 (by decide)
        rw [show ((8 : Int)).toNat = 8 from rfl, RG.out] at hrun
        have HRUN := Lib.hid (show Calls Tryd.prog 9 #[.agg #[.int .u32 ((cpuAB a b).r 0), .int .u32 ((cpuAB a b).r 1), .int .u32 ((cpuAB a b).r 2), .int .u32 ((cpuAB a b).r 3), .int .u32 ((cpuAB a b).r 4), .int .u32 ((cpuAB a b).r 5), .int .u32 ((cpuAB a b).r 6), .int .u32 ((cpuAB a b).r 7), .complex .f64 ((cpuAB a b).z 0).1 ((cpuAB a b).z 0).2, .complex .f64 ((cpuAB a b).z 1).1 ((cpuAB a b).z 1).2, .int .u32 (cpuAB a b).pc], .iface 31 (.pointer (some ⟨g, 0, none⟩)), .int .i64 8] W1 fun e w' => e = .returned (.tuple #[.agg #[.int .u32 (c5.r 0), .int .u32 (c5.r 1), .int .u32 (c5.r 2), .int .u32 (c5.r 3), .int .u32 (c5.r 4), .int .u32 (c5.r 5), .int .u32 (c5.r 6), .int .u32 (c5.r 7), .complex .f64 (c5.z 0).1 (c5.z 0).2, .complex .f64 (c5.z 1).1 (c5.z 1).2, .int .u32 c5.pc], .int .i64 8, .int .i64 0]) ∧ RamAt w' g A B cap _ ∧ But (fun k => k = B) W1 w' from hrun)
        clear hrun
        go_simp
        refine HRUN.out.mono ?_
        rintro e W2 ⟨rfl, hm2, hb2⟩
        refine hK.out _ _ (hS.but hb2 hnB hBw) (fun hS => ?_)
        clear hK K hm2 hb2 HRUN hM hBl hBw hnB
        refine wpAnyH_take (i := 4) (v := ?_) rfl (by kernel_rfl) (by kernel_rfl) (by kernel_rfl) (fun _ _ _ h => h) (Or.inl ⟨by kernel_rfl, ?_⟩) hS ?_
        rotate_left 1
        · intro w hT
          go_simp
          all_goals with_reducible rfl
        refine wpAnyH_take (i := 5) (v := ?_) rfl (by kernel_rfl) (by kernel_rfl) (by kernel_rfl) (fun _ _ _ h => h) (Or.inl ⟨by kernel_rfl, ?_⟩) hS ?_
        rotate_left 1
        · intro w hT
          go_simp
          all_goals with_reducible rfl
        refine wpAnyH_take (i := 6) (v := ?_) rfl (by kernel_rfl) (by kernel_rfl) (by kernel_rfl) (fun _ _ _ h => h) (Or.inl ⟨by kernel_rfl, ?_⟩) hS ?_
        rotate_left 1
        · intro w hT
          go_simp
          all_goals with_reducible rfl
        refine wpAnyH_take (i := 7) (v := ?_) rfl (by kernel_rfl) (by kernel_rfl) (by kernel_rfl) (fun _ _ _ h => h) (Or.inl ⟨by kernel_rfl, ?_⟩) hS ?_
        rotate_left 1
        · intro w hT
          go_simp
          all_goals with_reducible rfl
        refine wpAnyH_ready (rs := [8]) (by kernel_rfl) (by simp) ?_
        refine AllReadyH.cons rfl (fun K hK => ?_) AllReadyH.nil
        have hgx := Blk.new W2 28 #[.int .u32 0, .int .u32 0, .int .u32 0, .int .u32 0, .int .u32 0, .int .u32 0, .int .u32 0, .int .u32 0, .complex .f64 0 0, .complex .f64 0 0, .int .u32 0]
        have hbx := bl_new (Below.refl W2.heap.size W2) (.cells #[.int .u32 0, .int .u32 0, .int .u32 0, .int .u32 0, .int .u32 0, .int .u32 0, .int .u32 0, .int .u32 0, .complex .f64 0 0, .complex .f64 0 0, .int .u32 0] 28)
        have hgl : ∀ x ∈ [(g10, c4), (g9, c3), (g8, c2), (g7, c1), (g6, (cpuAB a b))], x.1 ≠ W2.heap.size := fun x hx => Nat.ne_of_lt (hS.k x hx).lt
        have hgw : w.heap.size ≤ W2.heap.size := hS.b.size
        go_simp
        refine hK.out _ _ (hS.below hbx) (fun hS => ?_)
        clear hK K hbx
        generalize hwa : W2.alloc (.cells #[.int .u32 0, .int .u32 0, .int .u32 0, .int .u32 0, .int .u32 0, .int .u32 0, .int .u32 0, .int .u32 0, .complex .f64 0 0, .complex .f64 0 0, .int .u32 0] 28) = Wa at *
        generalize W2.heap.size = gx at *
        refine wpAnyH_ready (rs := [9]) (by kernel_rfl) (by simp) ?_
        refine AllReadyH.cons rfl (fun K hK => ?_) AllReadyH.nil
        have r0 := (row11 hgx).1
        have r1 := (row11 hgx).2.1
        have r2 := (row11 hgx).2.2.1
        have r3 := (row11 hgx).2.2.2.1
        have r4 := (row11 hgx).2.2.2.2.1
        have r5 := (row11 hgx).2.2.2.2.2.1
        have r6 := (row11 hgx).2.2.2.2.2.2.1
        have r7 := (row11 hgx).2.2.2.2.2.2.2.1
        have r8 := (row11 hgx).2.2.2.2.2.2.2.2.1
        have r9 := (row11 hgx).2.2.2.2.2.2.2.2.2.1
        have r10 := (row11 hgx).2.2.2.2.2.2.2.2.2.2.1
        have rlt := (row11 hgx).2.2.2.2.2.2.2.2.2.2.2
        have rf0 := hgx.frozen 0
        have rf1 := hgx.frozen 1
        have rf2 := hgx.frozen 2
        have rf3 := hgx.frozen 3
        have rf4 := hgx.frozen 4
        have rf5 := hgx.frozen 5
        have rf6 := hgx.frozen 6
        have rf7 := hgx.frozen 7
        have rf8 := hgx.frozen 8
        have rf9 := hgx.frozen 9
        have rf10 := hgx.frozen 10
        have hbt := set11_but (S := fun k => k = gx) (g := gx) (But.refl _ Wa) (.inl rfl) (.int .u32 (c5.r 0)) (.int .u32 (c5.r 1)) (.int .u32 (c5.r 2)) (.int .u32 (c5.r 3)) (.int .u32 (c5.r 4)) (.int .u32 (c5.r 5)) (.int .u32 (c5.r 6)) (.int .u32 (c5.r 7)) (.complex .f64 (c5.z 0).1 (c5.z 0).2) (.complex .f64 (c5.z 1).1 (c5.z 1).2) (.int .u32 c5.pc)
        have hblk := set11_blk hgx (.int .u32 (c5.r 0)) (.int .u32 (c5.r 1)) (.int .u32 (c5.r 2)) (.int .u32 (c5.r 3)) (.int .u32 (c5.r 4)) (.int .u32 (c5.r 5)) (.int .u32 (c5.r 6)) (.int .u32 (c5.r 7)) (.complex .f64 (c5.z 0).1 (c5.z 0).2) (.complex .f64 (c5.z 1).1 (c5.z 1).2) (.int .u32 c5.pc)
        go_simp
        refine hK.out _ _ (hS.but hbt hgl hgw) (fun hS => ?_)
        clear hK K r0 r1 r2 r3 r4 r5 r6 r7 r8 r9 r10 rf0 rf1 rf2 rf3 rf4 rf5 rf6 rf7 rf8 rf9 rf10
        refine wpAnyH_take (i := 10) (v := ?_) rfl (by kernel_rfl) (by kernel_rfl) (by kernel_rfl) (fun _ _ _ h => h) (Or.inl ⟨by kernel_rfl, ?_⟩) hS ?_
        rotate_left 1
        · intro w hT
          go_simp
          all_goals with_reducible rfl
        refine wpAnyH_take (i := 11) (v := ?_) rfl (by kernel_rfl) (by kernel_rfl) (by kernel_rfl) (fun _ _ _ h => h) (Or.inl ⟨by kernel_rfl, ?_⟩) hS ?_
        rotate_left 1
        · intro w hT
          go_simp
          all_goals with_reducible rfl
        refine wpAnyH_done (by kernel_rfl) ?_ _
        go_simp
        refine hm _ _ (Met.intro (hj _ _ ?_))
        repeat apply Exists.intro
        refine ⟨⟨rfl, rfl, gx, rfl, ⟨hS.b, fun x hx => ?_⟩⟩, rfl⟩
        rcases List.mem_cons.1 hx with rfl | hx
        · exact hblk
        · exact hS.k x hx
      · skip
        have hgx := Blk.new W1 28 #[.int .u32 0, .int .u32 0, .int .u32 0, .int .u32 0, .int .u32 0, .int .u32 0, .int .u32 0, .int .u32 0, .complex .f64 0 0, .complex .f64 0 0, .int .u32 0]
        have hbx := bl_new (Below.refl W1.heap.size W1) (.cells #[.int .u32 0, .int .u32 0, .int .u32 0, .int .u32 0, .int .u32 0, .int .u32 0, .int .u32 0, .int .u32 0, .complex .f64 0 0, .complex .f64 0 0, .int .u32 0] 28)
        have hgl : ∀ x ∈ [(g10, c4), (g9, c3), (g8, c2), (g7, c1), (g6, (cpuAB a b))], x.1 ≠ W1.heap.size := fun x hx => Nat.ne_of_lt (hS.k x hx).lt
        have hgw : w.heap.size ≤ W1.heap.size := hS.b.size
        have hMa := hM.below hbx
        have hgB : W1.heap.size ≠ B := Nat.ne_of_gt hBl
        have hBla := Nat.lt_of_lt_of_le hBl hbx.size
        clear hM hBl
        go_simp
        refine hK.out _ _ (hS.below hbx) (fun hS => ?_)
        clear hK K hbx
        generalize hwa : W1.alloc (.cells #[.int .u32 0, .int .u32 0, .int .u32 0, .int .u32 0, .int .u32 0, .int .u32 0, .int .u32 0, .int .u32 0, .complex .f64 0 0, .complex .f64 0 0, .int .u32 0] 28) = Wa at *
        generalize W1.heap.size = gx at *
        refine wpAnyH_ready (rs := [3]) (by kernel_rfl) (by simp) ?_
        refine AllReadyH.cons rfl (fun K hK => ?_) AllReadyH.nil
        have hrun := HR.out Wa hS.b g A B cap _ hMa hBla hBw (cpuAB a b) HOK.out 8 (by decide)
        rw [show ((8 : Int)).toNat = 8 from rfl, RG.out] at hrun
        have HRUN := Lib.hid (show Calls Tryd.prog 9 #[.agg #[.int .u32 ((cpuAB a b).r 0), .int .u32 ((cpuAB a b).r 1), .int .u32 ((cpuAB a b).r 2), .int .u32 ((cpuAB a b).r 3), .int .u32 ((cpuAB a b).r 4), .int .u32 ((cpuAB a b).r 5), .int .u32 ((cpuAB a b).r 6), .int .u32 ((cpuAB a b).r 7), .complex .f64 ((cpuAB a b).z 0).1 ((cpuAB a b).z 0).2, .complex .f64 ((cpuAB a b).z 1).1 ((cpuAB a b).z 1).2, .int .u32 (cpuAB a b).pc], .iface 31 (.pointer (some ⟨g, 0, none⟩)), .int .i64 8] Wa fun e w' => e = .returned (.tuple #[.agg #[.int .u32 (c5.r 0), .int .u32 (c5.r 1), .int .u32 (c5.r 2), .int .u32 (c5.r 3), .int .u32 (c5.r 4), .int .u32 (c5.r 5), .int .u32 (c5.r 6), .int .u32 (c5.r 7), .complex .f64 (c5.z 0).1 (c5.z 0).2, .complex .f64 (c5.z 1).1 (c5.z 1).2, .int .u32 c5.pc], .int .i64 8, .int .i64 0]) ∧ RamAt w' g A B cap _ ∧ But (fun k => k = B) Wa w' from hrun)
        clear hrun
        go_simp
        refine HRUN.out.mono ?_
        rintro e W2 ⟨rfl, hm2, hb2⟩
        have hgx := hgx.but hb2 hgB
        refine hK.out _ _ (hS.but hb2 hnB hBw) (fun hS => ?_)
        clear hK K hm2 hb2 HRUN hMa hBla hBw hnB
        refine wpAnyH_take (i := 4) (v := ?_) rfl (by kernel_rfl) (by kernel_rfl) (by kernel_rfl) (fun _ _ _ h => h) (Or.inl ⟨by kernel_rfl, ?_⟩) hS ?_
        rotate_left 1
        · intro w hT
          go_simp
          all_goals with_reducible rfl
        refine wpAnyH_take (i := 5) (v := ?_) rfl (by kernel_rfl) (by kernel_rfl) (by kernel_rfl) (fun _ _ _ h => h) (Or.inl ⟨by kernel_rfl, ?_⟩) hS ?_
        rotate_left 1
        · intro w hT
          go_simp
          all_goals with_reducible rfl
        refine wpAnyH_take (i := 6) (v := ?_) rfl (by kernel_rfl) (by kernel_rfl) (by kernel_rfl) (fun _ _ _ h => h) (Or.inl ⟨by kernel_rfl, ?_⟩) hS ?_
        rotate_left 1
        · intro w hT
          go_simp
          all_goals with_reducible rfl
        refine wpAnyH_take (i := 7) (v := ?_) rfl (by kernel_rfl) (by kernel_rfl) (by kernel_rfl) (fun _ _ _ h => h) (Or.inl ⟨by kernel_rfl, ?_⟩) hS ?_
        rotate_left 1
        · intro w hT
          go_simp
          all_goals with_reducible rfl
        refine wpAnyH_ready (rs := [9]) (by kernel_rfl) (by simp) ?_
        refine AllReadyH.cons rfl (fun K hK => ?_) AllReadyH.nil
        have r0 := (row11 hgx).1
        have r1 := (row11 hgx).2.1
        have r2 := (row11 hgx).2.2.1
        have r3 := (row11 hgx).2.2.2.1
        have r4 := (row11 hgx).2.2.2.2.1
        have r5 := (row11 hgx).2.2.2.2.2.1
        have r6 := (row11 hgx).2.2.2.2.2.2.1
        have r7 := (row11 hgx).2.2.2.2.2.2.2.1
        have r8 := (row11 hgx).2.2.2.2.2.2.2.2.1
        have r9 := (row11 hgx).2.2.2.2.2.2.2.2.2.1
        have r10 := (row11 hgx).2.2.2.2.2.2.2.2.2.2.1
        have rlt := (row11 hgx).2.2.2.2.2.2.2.2.2.2.2
        have rf0 := hgx.frozen 0
        have rf1 := hgx.frozen 1
        have rf2 := hgx.frozen 2
        have rf3 := hgx.frozen 3
        have rf4 := hgx.frozen 4
        have rf5 := hgx.frozen 5
        have rf6 := hgx.frozen 6
        have rf7 := hgx.frozen 7
        have rf8 := hgx.frozen 8
        have rf9 := hgx.frozen 9
        have rf10 := hgx.frozen 10
        have hbt := set11_but (S := fun k => k = gx) (g := gx) (But.refl _ W2) (.inl rfl) (.int .u32 (c5.r 0)) (.int .u32 (c5.r 1)) (.int .u32 (c5.r 2)) (.int .u32 (c5.r 3)) (.int .u32 (c5.r 4)) (.int .u32 (c5.r 5)) (.int .u32 (c5.r 6)) (.int .u32 (c5.r 7)) (.complex .f64 (c5.z 0).1 (c5.z 0).2) (.complex .f64 (c5.z 1).1 (c5.z 1).2) (.int .u32 c5.pc)
        have hblk := set11_blk hgx (.int .u32 (c5.r 0)) (.int .u32 (c5.r 1)) (.int .u32 (c5.r 2)) (.int .u32 (c5.r 3)) (.int .u32 (c5.r 4)) (.int .u32 (c5.r 5)) (.int .u32 (c5.r 6)) (.int .u32 (c5.r 7)) (.complex .f64 (c5.z 0).1 (c5.z 0).2) (.complex .f64 (c5.z 1).1 (c5.z 1).2) (.int .u32 c5.pc)
        go_simp
        refine hK.out _ _ (hS.but hbt hgl hgw) (fun hS => ?_)
        clear hK K r0 r1 r2 r3 r4 r5 r6 r7 r8 r9 r10 rf0 rf1 rf2 rf3 rf4 rf5 rf6 rf7 rf8 rf9 rf10
        refine wpAnyH_take (i := 10) (v := ?_) rfl (by kernel_rfl) (by kernel_rfl) (by kernel_rfl) (fun _ _ _ h => h) (Or.inl ⟨by kernel_rfl, ?_⟩) hS ?_
        rotate_left 1
        · intro w hT
          go_simp
          all_goals with_reducible rfl
        refine wpAnyH_take (i := 11) (v := ?_) rfl (by kernel_rfl) (by kernel_rfl) (by kernel_rfl) (fun _ _ _ h => h) (Or.inl ⟨by kernel_rfl, ?_⟩) hS ?_
        rotate_left 1
        · intro w hT
          go_simp
          all_goals with_reducible rfl
        refine wpAnyH_done (by kernel_rfl) ?_ _
        go_simp
        refine hm _ _ (Met.intro (hj _ _ ?_))
        repeat apply Exists.intro
        refine ⟨⟨rfl, rfl, gx, rfl, ⟨hS.b, fun x hx => ?_⟩⟩, rfl⟩
        rcases List.mem_cons.1 hx with rfl | hx
        · exact hblk
        · exact hS.k x hx
    · skip
      have hgx := Blk.new Wd 28 #[.int .u32 0, .int .u32 0, .int .u32 0, .int .u32 0, .int .u32 0, .int .u32 0, .int .u32 0, .int .u32 0, .complex .f64 0 0, .complex .f64 0 0, .int .u32 0]
      have hbx := bl_new (Below.refl Wd.heap.size Wd) (.cells #[.int .u32 0, .int .u32 0, .int .u32 0, .int .u32 0, .int .u32 0, .int .u32 0, .int .u32 0, .int .u32 0, .complex .f64 0 0, .complex .f64 0 0, .int .u32 0] 28)
      have hgl : ∀ x ∈ [(g10, c4), (g9, c3), (g8, c2), (g7, c1), (g6, (cpuAB a b))], x.1 ≠ Wd.heap.size := fun x hx => Nat.ne_of_lt (hS.k x hx).lt
      have hgw : w.heap.size ≤ Wd.heap.size := hS.b.size
      go_simp
      refine hK.out _ _ (hS.below hbx) (fun hS => ?_)
      clear hK K hbx
      generalize hwa : Wd.alloc (.cells #[.int .u32 0, .int .u32 0, .int .u32 0, .int .u32 0, .int .u32 0, .int .u32 0, .int .u32 0, .int .u32 0, .complex .f64 0 0, .complex .f64 0 0, .int .u32 0] 28) = Wa at *
      generalize Wd.heap.size = gx at *
      refine wpAnyH_ready (rs := [1]) (by kernel_rfl) (by simp) ?_
      refine AllReadyH.cons rfl (fun K hK => ?_) AllReadyH.nil
      go_simp
      refine (Hp5.out _ hS.b).mono ?_
      rintro e W1 ⟨⟨g, A, B, cap, rfl, hM, hg, hB, hBl⟩, hb⟩
      have hBw : w.heap.size ≤ B := Nat.le_trans hS.b.size hB
      have hnB : ∀ x ∈ [(g10, c4), (g9, c3), (g8, c2), (g7, c1), (g6, (cpuAB a b))], x.1 ≠ B := fun x hx => Nat.ne_of_lt (Nat.lt_of_lt_of_le (hS.k x hx).lt hB)
      have hgB : gx ≠ B := Nat.ne_of_lt (Nat.lt_of_lt_of_le hgx.lt hB)
      have hgx := hgx.below hb hgx.lt
      refine hK.out _ _ (hS.below hb) (fun hS => ?_)
      clear hK K hb hg hB
      refine wpAnyH_take (i := 2) (v := ?_) rfl (by kernel_rfl) (by kernel_rfl) (by kernel_rfl) (fun _ _ _ h => h) (Or.inl ⟨by kernel_rfl, ?_⟩) hS ?_
      rotate_left 1
      · intro w hT
        go_simp
        all_goals with_reducible rfl
      refine wpAnyH_ready (rs := [3]) (by kernel_rfl) (by simp) ?_
      refine AllReadyH.cons rfl (fun K hK => ?_) AllReadyH.nil
      have hrun := HR.out W1 hS.b g A B cap _ hM hBl hBw (cpuAB a b) HOK.out 8 (by decide)
      rw [show ((8 : Int)).toNat = 8 from rfl, RG.out] at hrun
      have HRUN := Lib.hid (show Calls Tryd.prog 9 #[.agg #[.int .u32 ((cpuAB a b).r 0), .int .u32 ((cpuAB a b).r 1), .int .u32 ((cpuAB a b).r 2), .int .u32 ((cpuAB a b).r 3), .int .u32 ((cpuAB a b).r 4), .int .u32 ((cpuAB a b).r 5), .int .u32 ((cpuAB a b).r 6), .int .u32 ((cpuAB a b).r 7), .complex .f64 ((cpuAB a b).z 0).1 ((cpuAB a b).z 0).2, .complex .f64 ((cpuAB a b).z 1).1 ((cpuAB a b).z 1).2, .int .u32 (cpuAB a b).pc], .iface 31 (.pointer (some ⟨g, 0, none⟩)), .int .i64 8] W1 fun e w' => e = .returned (.tuple #[.agg #[.int .u32 (c5.r 0), .int .u32 (c5.r 1), .int .u32 (c5.r 2), .int .u32 (c5.r 3), .int .u32 (c5.r 4), .int .u32 (c5.r 5), .int .u32 (c5.r 6), .int .u32 (c5.r 7), .complex .f64 (c5.z 0).1 (c5.z 0).2, .complex .f64 (c5.z 1).1 (c5.z 1).2, .int .u32 c5.pc], .int .i64 8, .int .i64 0]) ∧ RamAt w' g A B cap _ ∧ But (fun k => k = B) W1 w' from hrun)
      clear hrun
      go_simp
      refine HRUN.out.mono ?_
      rintro e W2 ⟨rfl, hm2, hb2⟩
      have hgx := hgx.but hb2 hgB
      refine hK.out _ _ (hS.but hb2 hnB hBw) (fun hS => ?_)
      clear hK K hm2 hb2 HRUN hM hBl hBw hnB
      refine wpAnyH_take (i := 4) (v := ?_) rfl (by kernel_rfl) (by kernel_rfl) (by kernel_rfl) (fun _ _ _ h => h) (Or.inl ⟨by kernel_rfl, ?_⟩) hS ?_
      rotate_left 1
      · intro w hT
        go_simp
        all_goals with_reducible rfl
      refine wpAnyH_take (i := 5) (v := ?_) rfl (by kernel_rfl) (by kernel_rfl) (by kernel_rfl) (fun _ _ _ h => h) (Or.inl ⟨by kernel_rfl, ?_⟩) hS ?_
      rotate_left 1
      · intro w hT
        go_simp
        all_goals with_reducible rfl
      refine wpAnyH_take (i := 6) (v := ?_) rfl (by kernel_rfl) (by kernel_rfl) (by kernel_rfl) (fun _ _ _ h => h) (Or.inl ⟨by kernel_rfl, ?_⟩) hS ?_
      rotate_left 1
      · intro w hT
        go_simp
        all_goals with_reducible rfl
      refine wpAnyH_take (i := 7) (v := ?_) rfl (by kernel_rfl) (by kernel_rfl) (by kernel_rfl) (fun _ _ _ h => h) (Or.inl ⟨by kernel_rfl, ?_⟩) hS ?_
      rotate_left 1
      · intro w hT
        go_simp
        all_goals with_reducible rfl
      refine wpAnyH_ready (rs := [9]) (by kernel_rfl) (by simp) ?_
      refine AllReadyH.cons rfl (fun K hK => ?_) AllReadyH.nil
      have r0 := (row11 hgx).1
      have r1 := (row11 hgx).2.1
      have r2 := (row11 hgx).2.2.1
      have r3 := (row11 hgx).2.2.2.1
      have r4 := (row11 hgx).2.2.2.2.1
      have r5 := (row11 hgx).2.2.2.2.2.1
      have r6 := (row11 hgx).2.2.2.2.2.2.1
      have r7 := (row11 hgx).2.2.2.2.2.2.2.1
      have r8 := (row11 hgx).2.2.2.2.2.2.2.2.1
      have r9 := (row11 hgx).2.2.2.2.2.2.2.2.2.1
      have r10 := (row11 hgx).2.2.2.2.2.2.2.2.2.2.1
      have rlt := (row11 hgx).2.2.2.2.2.2.2.2.2.2.2
      have rf0 := hgx.frozen 0
      have rf1 := hgx.frozen 1
      have rf2 := hgx.frozen 2
      have rf3 := hgx.frozen 3
      have rf4 := hgx.frozen 4
      have rf5 := hgx.frozen 5
      have rf6 := hgx.frozen 6
      have rf7 := hgx.frozen 7
      have rf8 := hgx.frozen 8
      have rf9 := hgx.frozen 9
      have rf10 := hgx.frozen 10
      have hbt := set11_but (S := fun k => k = gx) (g := gx) (But.refl _ W2) (.inl rfl) (.int .u32 (c5.r 0)) (.int .u32 (c5.r 1)) (.int .u32 (c5.r 2)) (.int .u32 (c5.r 3)) (.int .u32 (c5.r 4)) (.int .u32 (c5.r 5)) (.int .u32 (c5.r 6)) (.int .u32 (c5.r 7)) (.complex .f64 (c5.z 0).1 (c5.z 0).2) (.complex .f64 (c5.z 1).1 (c5.z 1).2) (.int .u32 c5.pc)
      have hblk := set11_blk hgx (.int .u32 (c5.r 0)) (.int .u32 (c5.r 1)) (.int .u32 (c5.r 2)) (.int .u32 (c5.r 3)) (.int .u32 (c5.r 4)) (.int .u32 (c5.r 5)) (.int .u32 (c5.r 6)) (.int .u32 (c5.r 7)) (.complex .f64 (c5.z 0).1 (c5.z 0).2) (.complex .f64 (c5.z 1).1 (c5.z 1).2) (.int .u32 c5.pc)
      go_simp
      refine hK.out _ _ (hS.but hbt hgl hgw) (fun hS => ?_)
      clear hK K r0 r1 r2 r3 r4 r5 r6 r7 r8 r9 r10 rf0 rf1 rf2 rf3 rf4 rf5 rf6 rf7 rf8 rf9 rf10
      refine wpAnyH_take (i := 10) (v := ?_) rfl (by kernel_rfl) (by kernel_rfl) (by kernel_rfl) (fun _ _ _ h => h) (Or.inl ⟨by kernel_rfl, ?_⟩) hS ?_
      rotate_left 1
      · intro w hT
        go_simp
        all_goals with_reducible rfl
      refine wpAnyH_take (i := 11) (v := ?_) rfl (by kernel_rfl) (by kernel_rfl) (by kernel_rfl) (fun _ _ _ h => h) (Or.inl ⟨by kernel_rfl, ?_⟩) hS ?_
      rotate_left 1
      · intro w hT
        go_simp
        all_goals with_reducible rfl
      refine wpAnyH_done (by kernel_rfl) ?_ _
      go_simp
      refine hm _ _ (Met.intro (hj _ _ ?_))
      repeat apply Exists.intro
      refine ⟨⟨rfl, rfl, gx, rfl, ⟨hS.b, fun x hx => ?_⟩⟩, rfl⟩
      rcases List.mem_cons.1 hx with rfl | hx
      · exact hblk
      · exact hS.k x hx
  case rest =>
  obtain ⟨rfl, rfl, g11, rfl, hkb⟩ := hcut
  have y7 := cp_reg (hkb.k (g7, c1) (by simp)) (k := 1) (by decide)
  have y7l := (hkb.k (g7, c1) (by simp)).lt
  rw [RB.out] at y7
  have y8 := cp_reg (hkb.k (g8, c2) (by simp)) (k := 1) (by decide)
  have y8l := (hkb.k (g8, c2) (by simp)).lt
  rw [RD.out] at y8
  have y9 := cp_reg (hkb.k (g9, c3) (by simp)) (k := 3) (by decide)
  have y9l := (hkb.k (g9, c3) (by simp)).lt
  rw [RF.out] at y9
  have y10 := cp_reg (hkb.k (g10, c4) (by simp)) (k := 5) (by decide)
  have y10l := (hkb.k (g10, c4) (by simp)).lt
  rw [RJ.out] at y10
  have y11 := cp_reg (hkb.k (g11, c5) (by simp)) (k := 3) (by decide)
  have y11l := (hkb.k (g11, c5) (by simp)).lt
  rw [RH.out] at y11
  have HKB := Lib.hid hkb
  clear hkb
  dsimp only at y7l y8l y9l y10l y11l
  go_wp2
  go_ret
  exact ⟨rfl, HKB.out.b⟩
end Go.Proofs.YtoglmemmdolbmaaDoor
