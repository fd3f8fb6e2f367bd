/-
  The law CoreCalls, walked. Condition: the tables lie as the program's text lays them; words are words.
-/
import Derived.Deep.RegionHeld3
import Derived.Deep.DeepCutAuto
import Derived.Test.YtoglmemmdolbmaaDoorCoW0
import Derived.Test.YtoglmemmdolbmaaDoorCoW1
import Derived.Test.YtoglmemmdolbmaaDoorCoW2
namespace Go.Proofs.YtoglmemmdolbmaaDoor
open Go.RowKit Go.Shelf
set_option linter.unusedVariables false
set_option linter.unusedSimpArgs false
attribute [local go_sem] Oper.semAt_some
attribute [local go_sem] run_store_complex
attribute [local irreducible] floatOfInt wz

/-- Blocks that are kept, each with a Cpu. -/
structure KB (w : World) (l : List (Nat × Cp)) (W : World) : Prop where
  b : Below w.heap.size w W
  k : ∀ x ∈ l, CpAt W x.1 x.2
theorem KB.below {w W W' : World} {l : List (Nat × Cp)} (h : KB w l W) (hb : Below W.heap.size W W') : KB w l W' := ⟨h.b.trans (hb.mono h.b.size), fun x hx => (h.k x hx).below hb (h.k x hx).lt⟩
theorem KB.but {w W W' : World} {l : List (Nat × Cp)} {B : Nat} (h : KB w l W) (hb : But (fun k => k = B) W W') (hn : ∀ x ∈ l, x.1 ≠ B) (hw : w.heap.size ≤ B) : KB w l W' :=
  ⟨h.b.trans (hb.below (B := w.heap.size) (fun k hk => by omega) h.b.size), fun x hx => (h.k x hx).but hb (hn x hx)⟩

theorem jz_text {W : World} (hG : I.Ground W) {kn : Nat} {dg : UInt8} (hk : kn < 6) (hd : UInt8.ofNat (48 + kn) = dg) : (Calls Tryd.prog 10 #[.string (⟨#[106, 122, 32]⟩ ++ ⟨#[dg]⟩ ++ ⟨#[32, 52, 10]⟩)] W fun e w' => NewRam W.heap.size (memOf (jzT kn)) e w' ∧ Below W.heap.size W w') ∧
    (Calls Tryd.prog 10 #[.string (⟨#[106, 110, 122, 32]⟩ ++ ⟨#[dg]⟩ ++ ⟨#[32, 52, 10]⟩)] W fun e w' => NewRam W.heap.size (memOf (jnzT kn)) e w' ∧ Below W.heap.size W w') := by
  subst hd
  rcases (show kn = 0 ∨ kn = 1 ∨ kn = 2 ∨ kn = 3 ∨ kn = 4 ∨ kn = 5 by omega) with rfl | rfl | rfl | rfl | rfl | rfl
  all_goals exact ⟨ramText hG _ (by decide +kernel) (by decide +kernel) (by decide +kernel) (by decide +kernel), ramText hG _ (by decide +kernel) (by decide +kernel) (by decide +kernel) (by decide +kernel)⟩
theorem str6 {kn : Nat} {dg : UInt8} (hk : kn < 6) (hd : UInt8.ofNat (48 + kn) = dg) : ((#[.string ⟨#[48]⟩, .string ⟨#[49]⟩, .string ⟨#[50]⟩, .string ⟨#[51]⟩, .string ⟨#[52]⟩, .string ⟨#[53]⟩] : Array Value))[kn]? = some (.string ⟨#[dg]⟩) := by
  subst hd
  rcases (show kn = 0 ∨ kn = 1 ∨ kn = 2 ∨ kn = 3 ∨ kn = 4 ∨ kn = 5 by omega) with rfl | rfl | rfl | rfl | rfl | rfl <;> rfl
theorem z8 {kn : Nat} (hk : kn < 6) : ((#[.int .u32 0, .int .u32 0, .int .u32 0, .int .u32 0, .int .u32 0, .int .u32 0, .int .u32 0, .int .u32 0] : Array Value))[kn]? = some (.int .u32 0) := by
  rcases (show kn = 0 ∨ kn = 1 ∨ kn = 2 ∨ kn = 3 ∨ kn = 4 ∨ kn = 5 by omega) with rfl | rfl | rfl | rfl | rfl | rfl <;> rfl
theorem arrK {kn : Nat} (hk : kn < 6) (v : Int) : ((#[.int .u32 0, .int .u32 0, .int .u32 0, .int .u32 0, .int .u32 0, .int .u32 0, .int .u32 0, .int .u32 0] : Array Value)).setIfInBounds kn (.int .u32 v) = #[.int .u32 ((cpuK kn v).r 0), .int .u32 ((cpuK kn v).r 1), .int .u32 ((cpuK kn v).r 2), .int .u32 ((cpuK kn v).r 3), .int .u32 ((cpuK kn v).r 4), .int .u32 ((cpuK kn v).r 5), .int .u32 ((cpuK kn v).r 6), .int .u32 ((cpuK kn v).r 7)] := by
  rcases (show kn = 0 ∨ kn = 1 ∨ kn = 2 ∨ kn = 3 ∨ kn = 4 ∨ kn = 5 by omega) with rfl | rfl | rfl | rfl | rfl | rfl <;> rfl

theorem cpuVQ_ok {v q : Int} (hv : 0 ≤ v ∧ v ≤ 4294967295) (hq : 0 ≤ q ∧ q ≤ 4294967295) : (cpuVQ v q).Ok := ⟨fun i => by
  show 0 ≤ (if i = 1 then v else if i = 2 then q else 0) ∧ (if i = 1 then v else if i = 2 then q else 0) ≤ 4294967295
  split
  · exact hv
  · split
    · exact hq
    · decide, by show (0 : Int) ≤ 0; decide, by show (0 : Int) ≤ 4294967295; decide⟩

set_option maxRecDepth 100000 in
set_option maxHeartbeats 16000000 in
theorem callsLaw_any {w : World} (hG : I.Ground w) (a v t : Int) (ha : 0 ≤ a ∧ a ≤ 255) (hv : 0 ≤ v ∧ v ≤ 4294967295) (ht : 0 ≤ t ∧ t ≤ 255) : Calls Tryd.prog 7 #[.int .u8 a, .int .u32 v, .int .u8 t] w fun e w' => e = .returned (.bool true) ∧ Below w.heap.size w w' := by
  have H6 := Lib.hid (fun W (hW : Below w.heap.size w W) => show Calls Tryd.prog 10 #[.string ⟨#[106, 97, 108, 32, 55, 32, 115, 117, 98, 10, 115, 121, 115, 10, 115, 117, 98, 58, 10, 106, 114, 32, 55, 10]⟩] W fun e w' => NewRam W.heap.size (memOf p6) e w' ∧ Below W.heap.size W w' from
    ramText (hG.below hW) _ (by decide) (by decide +kernel) (by decide +kernel) (by decide +kernel))
  have HS := Lib.hid (fun W (hW : Below w.heap.size w W) g A B cap m (hM : RamAt W g A B cap m) (hB : B < W.heap.size) (hw : w.heap.size ≤ B) (c : Cp) (hc : c.Ok) =>
    step_any (hG.laid.below hW) hM hc hB)
  have HR := Lib.hid (fun W (hW : Below w.heap.size w W) g A B cap m (hM : RamAt W g A B cap m) (hB : B < W.heap.size) (hw : w.heap.size ≤ B) (c : Cp) (hc : c.Ok) most (hm : most ≤ 9223372036854775807) =>
    run_any (hG.laid.below hW) hM hB (by have := hG.laid.klt; omega) c hc most hm)
  have HA := Lib.hid (fun W (hW : Below w.heap.size w W) => alive_any (hG.below hW))
  have HV := Lib.hid hv
  have HGR := Lib.hid (fun (W : World) (hW : Below w.heap.size w W) => hG.below hW)
  obtain ⟨kn, hkn⟩ : ∃ kn : Nat, a.tmod 6 = (kn : Int) := ⟨(a.tmod 6).toNat, by rw [Int.tmod_eq_emod_of_nonneg ha.1]; omega⟩
  have hk6 : kn < 6 := by rw [Int.tmod_eq_emod_of_nonneg ha.1] at hkn; omega
  have hki : (kn : Int) < 6 := by omega
  obtain ⟨c1, ra, rb, rc⟩ := calls1
  have RA := Lib.hid ra
  have RB := Lib.hid rb
  have RC := Lib.hid rc
  clear ra rb rc hG hv
  go_enter Tryd.func7, Tryd.ntmps7
  go_wp2_with (fail)
  refine (HA.out _ (Below.refl _ _)).mono ?_
  rintro e Wq ⟨rfl, hbq⟩
  have HBq := Lib.hid hbq
  clear hbq
  go_wp2_with (fail)
  refine (H6.out _ HBq.out).mono ?_
  rintro e Wr ⟨⟨g, A, B, cap, rfl, hM, hg, hB, hBl⟩, hbr⟩
  have HBr := Lib.hid (bl_step HBq.out hbr)
  have hrun := HR.out Wr HBr.out g A B cap _ hM hBl (Nat.le_trans HBq.out.size hB) cpu0 cpu0_ok 9 (by decide)
  rw [show ((9 : Int)).toNat = 9 from rfl, RA.out] at hrun
  have HRUN := Lib.hid (show Calls Tryd.prog 9 #[.agg #[.int .u32 0, .int .u32 0, .int .u32 0, .int .u32 0, .int .u32 0, .int .u32 0, .int .u32 0, .int .u32 0, .complex .f64 0 0, .complex .f64 0 0, .int .u32 0], .iface 31 (.pointer (some ⟨g, 0, none⟩)), .int .i64 9] Wr fun e w' => e = .returned (.tuple #[.agg #[.int .u32 (c1.r 0), .int .u32 (c1.r 1), .int .u32 (c1.r 2), .int .u32 (c1.r 3), .int .u32 (c1.r 4), .int .u32 (c1.r 5), .int .u32 (c1.r 6), .int .u32 (c1.r 7), .complex .f64 (c1.z 0).1 (c1.z 0).2, .complex .f64 (c1.z 1).1 (c1.z 1).2, .int .u32 c1.pc], .int .i64 2, .int .i64 1]) ∧ RamAt w' g A B cap (memOf p6) ∧ But (fun k => k = B) Wr w' from hrun)
  have HGB := Lib.hid (show w.heap.size ≤ B from Nat.le_trans HBq.out.size hB)
  clear hrun hbr hM hg hB hBl
  go_wp2_with (fail)
  refine HRUN.out.mono ?_
  rintro e Wt ⟨rfl, hmt, hbt⟩
  have HBt := Lib.hid (HBr.out.trans (hbt.below (B := w.heap.size) (fun k hk => by have := HGB.out; omega) HBr.out.size))
  clear hmt hbt HRUN
  go_upto_region 5 with (fail)
  have hkb : KB w [(Wt.heap.size, c1)] (Wt.alloc (.cells #[.int .u32 (c1.r 0), .int .u32 (c1.r 1), .int .u32 (c1.r 2), .int .u32 (c1.r 3), .int .u32 (c1.r 4), .int .u32 (c1.r 5), .int .u32 (c1.r 6), .int .u32 (c1.r 7), .complex .f64 (c1.z 0).1 (c1.z 0).2, .complex .f64 (c1.z 1).1 (c1.z 1).2, .int .u32 c1.pc] 28)) := ⟨bl_new HBt.out _, fun x hx => by
    rcases List.mem_singleton.1 hx with rfl
    exact Blk.new Wt 28 c1.arr⟩
  generalize Wt.alloc (.cells #[.int .u32 (c1.r 0), .int .u32 (c1.r 1), .int .u32 (c1.r 2), .int .u32 (c1.r 3), .int .u32 (c1.r 4), .int .u32 (c1.r 5), .int .u32 (c1.r 6), .int .u32 (c1.r 7), .complex .f64 (c1.z 0).1 (c1.z 0).2, .complex .f64 (c1.z 1).1 (c1.z 1).2, .int .u32 c1.pc] 28) = Wu at *
  generalize Wt.heap.size = g10 at *
  have hkb0 := (hkb.k (g10, c1) (by simp)).lt
  have hw0 := hkb.b.size
  dsimp only at hkb0
  go_upto_region 6 with (fail)
  have h13 := Blk.new Wu 24 #[.int .u32 0, .int .u32 0, .int .u32 0, .int .u32 0, .int .u32 0, .int .u32 0, .int .u32 0, .int .u32 0]
  have hb13 := bl_new (Below.refl Wu.heap.size Wu) (.cells #[.int .u32 0, .int .u32 0, .int .u32 0, .int .u32 0, .int .u32 0, .int .u32 0, .int .u32 0, .int .u32 0] 24)
  have hkb := hkb.below hb13
  have hn13 : ∀ x ∈ [(g10, c1)], x.1 ≠ Wu.heap.size := fun x hx => by
    rcases List.mem_singleton.1 hx with rfl
    exact Nat.ne_of_lt hkb0
  have hw13 : w.heap.size ≤ Wu.heap.size := hw0
  generalize Wu.alloc (.cells #[.int .u32 0, .int .u32 0, .int .u32 0, .int .u32 0, .int .u32 0, .int .u32 0, .int .u32 0, .int .u32 0] 24) = Wv at *
  generalize Wu.heap.size = g13 at *
  have hz13 := (h13.cell kn).trans (z8 hk6)
  have hf13 := h13.frozen kn
  have hl13 := h13.lt
  have hki8 : (kn : Int) < 8 := by omega
  go_upto_region 7 with (fail)
  have hs13 := h13.set_ kn (.int .u32 v)
  rw [arrK hk6 v] at hs13
  have hkb := hkb.but (But.setCell (S := fun k => k = g13) (But.refl _ Wv) (p := ⟨g13, kn, none⟩) (.inl rfl) (.int .u32 v)) hn13 hw13
  have h13 := hs13
  clear hz13 hf13 hl13 hs13 hb13
  generalize Wv.setCell ⟨g13, kn, none⟩ (.int .u32 v) = Wx at *
  obtain ⟨dg, hdg⟩ : ∃ d : UInt8, UInt8.ofNat (48 + kn) = d := ⟨_, rfl⟩
  have HDG := Lib.hid hdg
  clear hdg
  have HJZ := Lib.hid (fun W (hW : Below w.heap.size w W) => show Calls Tryd.prog 10 #[.string (⟨#[106, 122, 32]⟩ ++ ⟨#[dg]⟩ ++ ⟨#[32, 52, 10]⟩)] W fun e w' => NewRam W.heap.size (memOf (jzT kn)) e w' ∧ Below W.heap.size W w' from by
    have hjz := jz_text (HGR.out W hW) hk6 HDG.out
    exact hjz.1)
  have HJN := Lib.hid (fun W (hW : Below w.heap.size w W) => show Calls Tryd.prog 10 #[.string (⟨#[106, 110, 122, 32]⟩ ++ ⟨#[dg]⟩ ++ ⟨#[32, 52, 10]⟩)] W fun e w' => NewRam W.heap.size (memOf (jnzT kn)) e w' ∧ Below W.heap.size W w' from by
    have hjz := jz_text (HGR.out W hW) hk6 HDG.out
    exact hjz.2)
  obtain ⟨cz, cy, rz, ry, pz, py⟩ := step_jz hk6 v
  have RZ := Lib.hid rz
  have RY := Lib.hid ry
  have PZ := Lib.hid pz
  have PY := Lib.hid py
  clear rz ry pz py
  go_cut [14, 15] from 39 to 52 (fun pp tt wx => tt = .int .i64 0 ∧ ∃ gx, pp = .pointer (some ⟨gx, 0, none⟩) ∧ KB w ((gx, cz) :: [(g10, c1)]) wx ∧ Blk wx g13 24 #[.int .u32 ((cpuK kn v).r 0), .int .u32 ((cpuK kn v).r 1), .int .u32 ((cpuK kn v).r 2), .int .u32 ((cpuK kn v).r 3), .int .u32 ((cpuK kn v).r 4), .int .u32 ((cpuK kn v).r 5), .int .u32 ((cpuK kn v).r 6), .int .u32 ((cpuK kn v).r 7)])
  case first =>
    rename_i hj hm
    refine wp_region_held_drew (S := fun W => KB w [(g10, c1)] W ∧ Blk W g13 24 #[.int .u32 ((cpuK kn v).r 0), .int .u32 ((cpuK kn v).r 1), .int .u32 ((cpuK kn v).r 2), .int .u32 ((cpuK kn v).r 3), .int .u32 ((cpuK kn v).r 4), .int .u32 ((cpuK kn v).r 5), .int .u32 ((cpuK kn v).r 6), .int .u32 ((cpuK kn v).r 7)]) (by kernel_rfl) ⟨hkb.below (Below.refl _ _).drew, h13.below (Below.refl _ _).drew h13.lt⟩ (fun hS => ?_)
    generalize Wx.drew = Wd at *
    refine wpAnyH_take (i := 0) (v := ?_) rfl (by kernel_rfl) (by kernel_rfl) (by kernel_rfl) (fun _ _ _ h => h) (Or.inl ⟨by kernel_rfl, ?_⟩) hS ?_
    rotate_left 1
    · intro w hT
      have c0 := hT.2.cell 0
      have c1 := hT.2.cell 1
      have c2 := hT.2.cell 2
      have c3 := hT.2.cell 3
      have c4 := hT.2.cell 4
      have c5 := hT.2.cell 5
      have c6 := hT.2.cell 6
      have c7 := hT.2.cell 7
      have clt := hT.2.lt
      simp only [List.getElem?_toArray, List.getElem?_cons_zero, List.getElem?_cons_succ] at c0 c1 c2 c3 c4 c5 c6 c7
      go_simp
      all_goals with_reducible rfl
    refine wpAnyH_take (i := 1) (v := ?_) rfl (by kernel_rfl) (by kernel_rfl) (by kernel_rfl) (fun _ _ _ h => h) (Or.inl ⟨by kernel_rfl, ?_⟩) hS ?_
    rotate_left 1
    · intro w hT
      go_simp
      all_goals with_reducible rfl
    refine wpAnyH_take (i := 3) (v := ?_) rfl (by kernel_rfl) (by kernel_rfl) (by kernel_rfl) (fun _ _ _ h => h) (Or.inl ⟨by kernel_rfl, ?_⟩) hS ?_
    rotate_left 1
    · intro w hT
      go_simp
      all_goals with_reducible rfl
    refine wpAnyH_ready (rs := [2, 14]) (by kernel_rfl) (by simp) ?_
    refine AllReadyH.cons rfl (fun K hK => ?_) (AllReadyH.cons rfl (fun K hK => ?_) AllReadyH.nil)
    · skip
      have hgs := Blk.new Wd 9 #[.string ⟨#[48]⟩, .string ⟨#[49]⟩, .string ⟨#[50]⟩, .string ⟨#[51]⟩, .string ⟨#[52]⟩, .string ⟨#[53]⟩]
      have hbs := bl_new (Below.refl Wd.heap.size Wd) (.cells #[.string ⟨#[48]⟩, .string ⟨#[49]⟩, .string ⟨#[50]⟩, .string ⟨#[51]⟩, .string ⟨#[52]⟩, .string ⟨#[53]⟩] 9)
      go_simp
      refine hK.out _ _ ⟨hS.1.below hbs, hS.2.below hbs hS.2.lt⟩ (fun hS => ?_)
      clear hK K hbs
      generalize hws : Wd.alloc (.cells #[.string ⟨#[48]⟩, .string ⟨#[49]⟩, .string ⟨#[50]⟩, .string ⟨#[51]⟩, .string ⟨#[52]⟩, .string ⟨#[53]⟩] 9) = Ws at *
      generalize Wd.heap.size = gs at *
      refine wpAnyH_take (i := 4) (v := ?_) rfl (by kernel_rfl) (by kernel_rfl) (by kernel_rfl) (fun _ _ _ h => h) (Or.inl ⟨by kernel_rfl, ?_⟩) hS ?_
      rotate_left 1
      · intro w hT
        go_simp
        all_goals with_reducible rfl
      refine wpAnyH_ready (rs := [5, 14]) (by kernel_rfl) (by simp) ?_
      refine AllReadyH.cons rfl (fun K hK => ?_) (AllReadyH.cons rfl (fun K hK => ?_) AllReadyH.nil)
      · skip
        have hcs := (hgs.cell kn).trans (str6 hk6 HDG.out)
        have hcl := hgs.lt
        go_simp
        refine hK.out _ _ hS (fun hS => ?_)
        clear hK K hcs
        refine wpAnyH_take (i := 6) (v := ?_) rfl (by kernel_rfl) (by kernel_rfl) (by kernel_rfl) (fun _ _ _ h => h) (Or.inl ⟨by kernel_rfl, ?_⟩) hS ?_
        rotate_left 1
        · intro w hT
          go_simp
          all_goals with_reducible rfl
        refine wpAnyH_take (i := 7) (v := ?_) rfl (by kernel_rfl) (by kernel_rfl) (by kernel_rfl) (fun _ _ _ h => h) (Or.inl ⟨by kernel_rfl, ?_⟩) hS ?_
        rotate_left 1
        · intro w hT
          go_simp
          all_goals with_reducible rfl
        refine wpAnyH_ready (rs := [8, 14]) (by kernel_rfl) (by simp) ?_
        refine AllReadyH.cons rfl (fun K hK => ?_) (AllReadyH.cons rfl (fun K hK => ?_) AllReadyH.nil)
        · skip
          go_simp
          refine (HJZ.out _ hS.1.b).mono ?_
          rintro e W1 ⟨⟨g, A, B, cap, rfl, hM, hg, hB, hBl⟩, hb⟩
          have hBw : w.heap.size ≤ B := Nat.le_trans hS.1.b.size hB
          have hnB : ∀ x ∈ [(g10, c1)], x.1 ≠ B := fun x hx => Nat.ne_of_lt (Nat.lt_of_lt_of_le (hS.1.k x hx).lt hB)
          have hn8 : g13 ≠ B := Nat.ne_of_lt (Nat.lt_of_lt_of_le hS.2.lt hB)
          refine hK.out _ _ ⟨hS.1.below hb, hS.2.below hb hS.2.lt⟩ (fun hS => ?_)
          clear hK K hb hg hB
          refine wpAnyH_take (i := 9) (v := ?_) rfl (by kernel_rfl) (by kernel_rfl) (by kernel_rfl) (fun _ _ _ h => h) (Or.inl ⟨by kernel_rfl, ?_⟩) hS ?_
          rotate_left 1
          · intro w hT
            go_simp
            all_goals with_reducible rfl
          refine wpAnyH_ready (rs := [10, 14]) (by kernel_rfl) (by simp) ?_
          refine AllReadyH.cons rfl (fun K hK => ?_) (AllReadyH.cons rfl (fun K hK => ?_) AllReadyH.nil)
          · skip
            have hrun := HS.out W1 hS.1.b g A B cap _ hM hBl hBw (cpuK kn v) (cpuK_ok HV.out)
            rw [RZ.out] at hrun
            have HRUN := Lib.hid (show Calls Tryd.prog 15 #[.agg #[.int .u32 ((cpuK kn v).r 0), .int .u32 ((cpuK kn v).r 1), .int .u32 ((cpuK kn v).r 2), .int .u32 ((cpuK kn v).r 3), .int .u32 ((cpuK kn v).r 4), .int .u32 ((cpuK kn v).r 5), .int .u32 ((cpuK kn v).r 6), .int .u32 ((cpuK kn v).r 7), .complex .f64 0 0, .complex .f64 0 0, .int .u32 0], .iface 31 (.pointer (some ⟨g, 0, none⟩))] W1 fun e w' => e = .returned (.tuple #[.agg #[.int .u32 (cz.r 0), .int .u32 (cz.r 1), .int .u32 (cz.r 2), .int .u32 (cz.r 3), .int .u32 (cz.r 4), .int .u32 (cz.r 5), .int .u32 (cz.r 6), .int .u32 (cz.r 7), .complex .f64 (cz.z 0).1 (cz.z 0).2, .complex .f64 (cz.z 1).1 (cz.z 1).2, .int .u32 cz.pc], .int .i64 0]) ∧ RamAt w' g A B cap _ ∧ But (fun k => k = B) W1 w' from hrun)
            clear hrun
            go_simp
            refine HRUN.out.mono ?_
            rintro e W2 ⟨rfl, hm2, hb2⟩
            refine hK.out _ _ ⟨hS.1.but hb2 hnB hBw, hS.2.but hb2 hn8⟩ (fun hS => ?_)
            clear hK K hm2 hb2 HRUN hM hBl hBw hnB hn8
            refine wpAnyH_take (i := 11) (v := ?_) rfl (by kernel_rfl) (by kernel_rfl) (by kernel_rfl) (fun _ _ _ h => h) (Or.inl ⟨by kernel_rfl, ?_⟩) hS ?_
            rotate_left 1
            · intro w hT
              go_simp
              all_goals with_reducible rfl
            refine wpAnyH_take (i := 12) (v := ?_) rfl (by kernel_rfl) (by kernel_rfl) (by kernel_rfl) (fun _ _ _ h => h) (Or.inl ⟨by kernel_rfl, ?_⟩) hS ?_
            rotate_left 1
            · intro w hT
              go_simp
              all_goals with_reducible rfl
            refine wpAnyH_take (i := 13) (v := ?_) rfl (by kernel_rfl) (by kernel_rfl) (by kernel_rfl) (fun _ _ _ h => h) (Or.inl ⟨by kernel_rfl, ?_⟩) hS ?_
            rotate_left 1
            · intro w hT
              go_simp
              all_goals with_reducible rfl
            refine wpAnyH_ready (rs := [14]) (by kernel_rfl) (by simp) ?_
            refine AllReadyH.cons rfl (fun K hK => ?_) AllReadyH.nil
            have hgx := Blk.new W2 28 #[.int .u32 0, .int .u32 0, .int .u32 0, .int .u32 0, .int .u32 0, .int .u32 0, .int .u32 0, .int .u32 0, .complex .f64 0 0, .complex .f64 0 0, .int .u32 0]
            have hbx := bl_new (Below.refl W2.heap.size W2) (.cells #[.int .u32 0, .int .u32 0, .int .u32 0, .int .u32 0, .int .u32 0, .int .u32 0, .int .u32 0, .int .u32 0, .complex .f64 0 0, .complex .f64 0 0, .int .u32 0] 28)
            have hgl : ∀ x ∈ [(g10, c1)], x.1 ≠ W2.heap.size := fun x hx => Nat.ne_of_lt (hS.1.k x hx).lt
            have hg8 : g13 ≠ W2.heap.size := Nat.ne_of_lt hS.2.lt
            have hgw : w.heap.size ≤ W2.heap.size := hS.1.b.size
            go_simp
            refine hK.out _ _ ⟨hS.1.below hbx, hS.2.below hbx hS.2.lt⟩ (fun hS => ?_)
            clear hK K hbx
            generalize hwa : W2.alloc (.cells #[.int .u32 0, .int .u32 0, .int .u32 0, .int .u32 0, .int .u32 0, .int .u32 0, .int .u32 0, .int .u32 0, .complex .f64 0 0, .complex .f64 0 0, .int .u32 0] 28) = Wa at *
            generalize W2.heap.size = gx at *
            refine wpAnyH_ready (rs := [15]) (by kernel_rfl) (by simp) ?_
            refine AllReadyH.cons rfl (fun K hK => ?_) AllReadyH.nil
            have r0 := (row11 hgx).1
            have r1 := (row11 hgx).2.1
            have r2 := (row11 hgx).2.2.1
            have r3 := (row11 hgx).2.2.2.1
            have r4 := (row11 hgx).2.2.2.2.1
            have r5 := (row11 hgx).2.2.2.2.2.1
            have r6 := (row11 hgx).2.2.2.2.2.2.1
            have r7 := (row11 hgx).2.2.2.2.2.2.2.1
            have r8 := (row11 hgx).2.2.2.2.2.2.2.2.1
            have r9 := (row11 hgx).2.2.2.2.2.2.2.2.2.1
            have r10 := (row11 hgx).2.2.2.2.2.2.2.2.2.2.1
            have rlt := (row11 hgx).2.2.2.2.2.2.2.2.2.2.2
            have rf0 := hgx.frozen 0
            have rf1 := hgx.frozen 1
            have rf2 := hgx.frozen 2
            have rf3 := hgx.frozen 3
            have rf4 := hgx.frozen 4
            have rf5 := hgx.frozen 5
            have rf6 := hgx.frozen 6
            have rf7 := hgx.frozen 7
            have rf8 := hgx.frozen 8
            have rf9 := hgx.frozen 9
            have rf10 := hgx.frozen 10
            have hbt := set11_but (S := fun k => k = gx) (g := gx) (But.refl _ Wa) (.inl rfl) (.int .u32 (cz.r 0)) (.int .u32 (cz.r 1)) (.int .u32 (cz.r 2)) (.int .u32 (cz.r 3)) (.int .u32 (cz.r 4)) (.int .u32 (cz.r 5)) (.int .u32 (cz.r 6)) (.int .u32 (cz.r 7)) (.complex .f64 (cz.z 0).1 (cz.z 0).2) (.complex .f64 (cz.z 1).1 (cz.z 1).2) (.int .u32 cz.pc)
            have hblk := set11_blk hgx (.int .u32 (cz.r 0)) (.int .u32 (cz.r 1)) (.int .u32 (cz.r 2)) (.int .u32 (cz.r 3)) (.int .u32 (cz.r 4)) (.int .u32 (cz.r 5)) (.int .u32 (cz.r 6)) (.int .u32 (cz.r 7)) (.complex .f64 (cz.z 0).1 (cz.z 0).2) (.complex .f64 (cz.z 1).1 (cz.z 1).2) (.int .u32 cz.pc)
            go_simp
            refine hK.out _ _ ⟨hS.1.but hbt hgl hgw, hS.2.but hbt hg8⟩ (fun hS => ?_)
            clear hK K r0 r1 r2 r3 r4 r5 r6 r7 r8 r9 r10 rf0 rf1 rf2 rf3 rf4 rf5 rf6 rf7 rf8 rf9 rf10
            refine wpAnyH_take (i := 16) (v := ?_) rfl (by kernel_rfl) (by kernel_rfl) (by kernel_rfl) (fun _ _ _ h => h) (Or.inl ⟨by kernel_rfl, ?_⟩) hS ?_
            rotate_left 1
            · intro w hT
              go_simp
              all_goals with_reducible rfl
            refine wpAnyH_done (by kernel_rfl) ?_ _
            go_simp
            refine hm _ _ (Met.intro (hj _ _ ?_))
            repeat apply Exists.intro
            refine ⟨⟨rfl, gx, rfl, ⟨hS.1.b, fun x hx => ?_⟩, hS.2⟩, rfl⟩
            rcases List.mem_cons.1 hx with rfl | hx
            · exact hblk
            · exact hS.1.k x hx
          · skip
            have hgx := Blk.new W1 28 #[.int .u32 0, .int .u32 0, .int .u32 0, .int .u32 0, .int .u32 0, .int .u32 0, .int .u32 0, .int .u32 0, .complex .f64 0 0, .complex .f64 0 0, .int .u32 0]
            have hbx := bl_new (Below.refl W1.heap.size W1) (.cells #[.int .u32 0, .int .u32 0, .int .u32 0, .int .u32 0, .int .u32 0, .int .u32 0, .int .u32 0, .int .u32 0, .complex .f64 0 0, .complex .f64 0 0, .int .u32 0] 28)
            have hgl : ∀ x ∈ [(g10, c1)], x.1 ≠ W1.heap.size := fun x hx => Nat.ne_of_lt (hS.1.k x hx).lt
            have hg8 : g13 ≠ W1.heap.size := Nat.ne_of_lt hS.2.lt
            have hgw : w.heap.size ≤ W1.heap.size := hS.1.b.size
            have hMa := hM.below hbx
            have hgB : W1.heap.size ≠ B := Nat.ne_of_gt hBl
            have hBla := Nat.lt_of_lt_of_le hBl hbx.size
            clear hM hBl
            go_simp
            refine hK.out _ _ ⟨hS.1.below hbx, hS.2.below hbx hS.2.lt⟩ (fun hS => ?_)
            clear hK K hbx
            generalize hwa : W1.alloc (.cells #[.int .u32 0, .int .u32 0, .int .u32 0, .int .u32 0, .int .u32 0, .int .u32 0, .int .u32 0, .int .u32 0, .complex .f64 0 0, .complex .f64 0 0, .int .u32 0] 28) = Wa at *
            generalize W1.heap.size = gx at *
            refine wpAnyH_ready (rs := [10]) (by kernel_rfl) (by simp) ?_
            refine AllReadyH.cons rfl (fun K hK => ?_) AllReadyH.nil
            have hrun := HS.out Wa hS.1.b g A B cap _ hMa hBla hBw (cpuK kn v) (cpuK_ok HV.out)
            rw [RZ.out] at hrun
            have HRUN := Lib.hid (show Calls Tryd.prog 15 #[.agg #[.int .u32 ((cpuK kn v).r 0), .int .u32 ((cpuK kn v).r 1), .int .u32 ((cpuK kn v).r 2), .int .u32 ((cpuK kn v).r 3), .int .u32 ((cpuK kn v).r 4), .int .u32 ((cpuK kn v).r 5), .int .u32 ((cpuK kn v).r 6), .int .u32 ((cpuK kn v).r 7), .complex .f64 0 0, .complex .f64 0 0, .int .u32 0], .iface 31 (.pointer (some ⟨g, 0, none⟩))] Wa fun e w' => e = .returned (.tuple #[.agg #[.int .u32 (cz.r 0), .int .u32 (cz.r 1), .int .u32 (cz.r 2), .int .u32 (cz.r 3), .int .u32 (cz.r 4), .int .u32 (cz.r 5), .int .u32 (cz.r 6), .int .u32 (cz.r 7), .complex .f64 (cz.z 0).1 (cz.z 0).2, .complex .f64 (cz.z 1).1 (cz.z 1).2, .int .u32 cz.pc], .int .i64 0]) ∧ RamAt w' g A B cap _ ∧ But (fun k => k = B) Wa w' from hrun)
            clear hrun
            go_simp
            refine HRUN.out.mono ?_
            rintro e W2 ⟨rfl, hm2, hb2⟩
            have hgx := hgx.but hb2 hgB
            refine hK.out _ _ ⟨hS.1.but hb2 hnB hBw, hS.2.but hb2 hn8⟩ (fun hS => ?_)
            clear hK K hm2 hb2 HRUN hMa hBla hBw hnB hn8
            refine wpAnyH_take (i := 11) (v := ?_) rfl (by kernel_rfl) (by kernel_rfl) (by kernel_rfl) (fun _ _ _ h => h) (Or.inl ⟨by kernel_rfl, ?_⟩) hS ?_
            rotate_left 1
            · intro w hT
              go_simp
              all_goals with_reducible rfl
            refine wpAnyH_take (i := 12) (v := ?_) rfl (by kernel_rfl) (by kernel_rfl) (by kernel_rfl) (fun _ _ _ h => h) (Or.inl ⟨by kernel_rfl, ?_⟩) hS ?_
            rotate_left 1
            · intro w hT
              go_simp
              all_goals with_reducible rfl
            refine wpAnyH_take (i := 13) (v := ?_) rfl (by kernel_rfl) (by kernel_rfl) (by kernel_rfl) (fun _ _ _ h => h) (Or.inl ⟨by kernel_rfl, ?_⟩) hS ?_
            rotate_left 1
            · intro w hT
              go_simp
              all_goals with_reducible rfl
            refine wpAnyH_ready (rs := [15]) (by kernel_rfl) (by simp) ?_
            refine AllReadyH.cons rfl (fun K hK => ?_) AllReadyH.nil
            have r0 := (row11 hgx).1
            have r1 := (row11 hgx).2.1
            have r2 := (row11 hgx).2.2.1
            have r3 := (row11 hgx).2.2.2.1
            have r4 := (row11 hgx).2.2.2.2.1
            have r5 := (row11 hgx).2.2.2.2.2.1
            have r6 := (row11 hgx).2.2.2.2.2.2.1
            have r7 := (row11 hgx).2.2.2.2.2.2.2.1
            have r8 := (row11 hgx).2.2.2.2.2.2.2.2.1
            have r9 := (row11 hgx).2.2.2.2.2.2.2.2.2.1
            have r10 := (row11 hgx).2.2.2.2.2.2.2.2.2.2.1
            have rlt := (row11 hgx).2.2.2.2.2.2.2.2.2.2.2
            have rf0 := hgx.frozen 0
            have rf1 := hgx.frozen 1
            have rf2 := hgx.frozen 2
            have rf3 := hgx.frozen 3
            have rf4 := hgx.frozen 4
            have rf5 := hgx.frozen 5
            have rf6 := hgx.frozen 6
            have rf7 := hgx.frozen 7
            have rf8 := hgx.frozen 8
            have rf9 := hgx.frozen 9
            have rf10 := hgx.frozen 10
            have hbt := set11_but (S := fun k => k = gx) (g := gx) (But.refl _ W2) (.inl rfl) (.int .u32 (cz.r 0)) (.int .u32 (cz.r 1)) (.int .u32 (cz.r 2)) (.int .u32 (cz.r 3)) (.int .u32 (cz.r 4)) (.int .u32 (cz.r 5)) (.int .u32 (cz.r 6)) (.int .u32 (cz.r 7)) (.complex .f64 (cz.z 0).1 (cz.z 0).2) (.complex .f64 (cz.z 1).1 (cz.z 1).2) (.int .u32 cz.pc)
            have hblk := set11_blk hgx (.int .u32 (cz.r 0)) (.int .u32 (cz.r 1)) (.int .u32 (cz.r 2)) (.int .u32 (cz.r 3)) (.int .u32 (cz.r 4)) (.int .u32 (cz.r 5)) (.int .u32 (cz.r 6)) (.int .u32 (cz.r 7)) (.complex .f64 (cz.z 0).1 (cz.z 0).2) (.complex .f64 (cz.z 1).1 (cz.z 1).2) (.int .u32 cz.pc)
            go_simp
            refine hK.out _ _ ⟨hS.1.but hbt hgl hgw, hS.2.but hbt hg8⟩ (fun hS => ?_)
            clear hK K r0 r1 r2 r3 r4 r5 r6 r7 r8 r9 r10 rf0 rf1 rf2 rf3 rf4 rf5 rf6 rf7 rf8 rf9 rf10
            refine wpAnyH_take (i := 16) (v := ?_) rfl (by kernel_rfl) (by kernel_rfl) (by kernel_rfl) (fun _ _ _ h => h) (Or.inl ⟨by kernel_rfl, ?_⟩) hS ?_
            rotate_left 1
            · intro w hT
              go_simp
              all_goals with_reducible rfl
            refine wpAnyH_done (by kernel_rfl) ?_ _
            go_simp
            refine hm _ _ (Met.intro (hj _ _ ?_))
            repeat apply Exists.intro
            refine ⟨⟨rfl, gx, rfl, ⟨hS.1.b, fun x hx => ?_⟩, hS.2⟩, rfl⟩
            rcases List.mem_cons.1 hx with rfl | hx
            · exact hblk
            · exact hS.1.k x hx
        · skip
          have hgx := Blk.new Ws 28 #[.int .u32 0, .int .u32 0, .int .u32 0, .int .u32 0, .int .u32 0, .int .u32 0, .int .u32 0, .int .u32 0, .complex .f64 0 0, .complex .f64 0 0, .int .u32 0]
          have hbx := bl_new (Below.refl Ws.heap.size Ws) (.cells #[.int .u32 0, .int .u32 0, .int .u32 0, .int .u32 0, .int .u32 0, .int .u32 0, .int .u32 0, .int .u32 0, .complex .f64 0 0, .complex .f64 0 0, .int .u32 0] 28)
          have hgl : ∀ x ∈ [(g10, c1)], x.1 ≠ Ws.heap.size := fun x hx => Nat.ne_of_lt (hS.1.k x hx).lt
          have hg8 : g13 ≠ Ws.heap.size := Nat.ne_of_lt hS.2.lt
          have hgw : w.heap.size ≤ Ws.heap.size := hS.1.b.size
          go_simp
          refine hK.out _ _ ⟨hS.1.below hbx, hS.2.below hbx hS.2.lt⟩ (fun hS => ?_)
          clear hK K hbx
          generalize hwa : Ws.alloc (.cells #[.int .u32 0, .int .u32 0, .int .u32 0, .int .u32 0, .int .u32 0, .int .u32 0, .int .u32 0, .int .u32 0, .complex .f64 0 0, .complex .f64 0 0, .int .u32 0] 28) = Wa at *
          generalize Ws.heap.size = gx at *
          refine wpAnyH_ready (rs := [8]) (by kernel_rfl) (by simp) ?_
          refine AllReadyH.cons rfl (fun K hK => ?_) AllReadyH.nil
          go_simp
          refine (HJZ.out _ hS.1.b).mono ?_
          rintro e W1 ⟨⟨g, A, B, cap, rfl, hM, hg, hB, hBl⟩, hb⟩
          have hBw : w.heap.size ≤ B := Nat.le_trans hS.1.b.size hB
          have hnB : ∀ x ∈ [(g10, c1)], x.1 ≠ B := fun x hx => Nat.ne_of_lt (Nat.lt_of_lt_of_le (hS.1.k x hx).lt hB)
          have hn8 : g13 ≠ B := Nat.ne_of_lt (Nat.lt_of_lt_of_le hS.2.lt hB)
          have hgB : gx ≠ B := Nat.ne_of_lt (Nat.lt_of_lt_of_le hgx.lt hB)
          have hgx := hgx.below hb hgx.lt
          refine hK.out _ _ ⟨hS.1.below hb, hS.2.below hb hS.2.lt⟩ (fun hS => ?_)
          clear hK K hb hg hB
          refine wpAnyH_take (i := 9) (v := ?_) rfl (by kernel_rfl) (by kernel_rfl) (by kernel_rfl) (fun _ _ _ h => h) (Or.inl ⟨by kernel_rfl, ?_⟩) hS ?_
          rotate_left 1
          · intro w hT
            go_simp
            all_goals with_reducible rfl
          refine wpAnyH_ready (rs := [10]) (by kernel_rfl) (by simp) ?_
          refine AllReadyH.cons rfl (fun K hK => ?_) AllReadyH.nil
          have hrun := HS.out W1 hS.1.b g A B cap _ hM hBl hBw (cpuK kn v) (cpuK_ok HV.out)
          rw [RZ.out] at hrun
          have HRUN := Lib.hid (show Calls Tryd.prog 15 #[.agg #[.int .u32 ((cpuK kn v).r 0), .int .u32 ((cpuK kn v).r 1), .int .u32 ((cpuK kn v).r 2), .int .u32 ((cpuK kn v).r 3), .int .u32 ((cpuK kn v).r 4), .int .u32 ((cpuK kn v).r 5), .int .u32 ((cpuK kn v).r 6), .int .u32 ((cpuK kn v).r 7), .complex .f64 0 0, .complex .f64 0 0, .int .u32 0], .iface 31 (.pointer (some ⟨g, 0, none⟩))] W1 fun e w' => e = .returned (.tuple #[.agg #[.int .u32 (cz.r 0), .int .u32 (cz.r 1), .int .u32 (cz.r 2), .int .u32 (cz.r 3), .int .u32 (cz.r 4), .int .u32 (cz.r 5), .int .u32 (cz.r 6), .int .u32 (cz.r 7), .complex .f64 (cz.z 0).1 (cz.z 0).2, .complex .f64 (cz.z 1).1 (cz.z 1).2, .int .u32 cz.pc], .int .i64 0]) ∧ RamAt w' g A B cap _ ∧ But (fun k => k = B) W1 w' from hrun)
          clear hrun
          go_simp
          refine HRUN.out.mono ?_
          rintro e W2 ⟨rfl, hm2, hb2⟩
          have hgx := hgx.but hb2 hgB
          refine hK.out _ _ ⟨hS.1.but hb2 hnB hBw, hS.2.but hb2 hn8⟩ (fun hS => ?_)
          clear hK K hm2 hb2 HRUN hM hBl hBw hnB hn8
          refine wpAnyH_take (i := 11) (v := ?_) rfl (by kernel_rfl) (by kernel_rfl) (by kernel_rfl) (fun _ _ _ h => h) (Or.inl ⟨by kernel_rfl, ?_⟩) hS ?_
          rotate_left 1
          · intro w hT
            go_simp
            all_goals with_reducible rfl
          refine wpAnyH_take (i := 12) (v := ?_) rfl (by kernel_rfl) (by kernel_rfl) (by kernel_rfl) (fun _ _ _ h => h) (Or.inl ⟨by kernel_rfl, ?_⟩) hS ?_
          rotate_left 1
          · intro w hT
            go_simp
            all_goals with_reducible rfl
          refine wpAnyH_take (i := 13) (v := ?_) rfl (by kernel_rfl) (by kernel_rfl) (by kernel_rfl) (fun _ _ _ h => h) (Or.inl ⟨by kernel_rfl, ?_⟩) hS ?_
          rotate_left 1
          · intro w hT
            go_simp
            all_goals with_reducible rfl
          refine wpAnyH_ready (rs := [15]) (by kernel_rfl) (by simp) ?_
          refine AllReadyH.cons rfl (fun K hK => ?_) AllReadyH.nil
          have r0 := (row11 hgx).1
          have r1 := (row11 hgx).2.1
          have r2 := (row11 hgx).2.2.1
          have r3 := (row11 hgx).2.2.2.1
          have r4 := (row11 hgx).2.2.2.2.1
          have r5 := (row11 hgx).2.2.2.2.2.1
          have r6 := (row11 hgx).2.2.2.2.2.2.1
          have r7 := (row11 hgx).2.2.2.2.2.2.2.1
          have r8 := (row11 hgx).2.2.2.2.2.2.2.2.1
          have r9 := (row11 hgx).2.2.2.2.2.2.2.2.2.1
          have r10 := (row11 hgx).2.2.2.2.2.2.2.2.2.2.1
          have rlt := (row11 hgx).2.2.2.2.2.2.2.2.2.2.2
          have rf0 := hgx.frozen 0
          have rf1 := hgx.frozen 1
          have rf2 := hgx.frozen 2
          have rf3 := hgx.frozen 3
          have rf4 := hgx.frozen 4
          have rf5 := hgx.frozen 5
          have rf6 := hgx.frozen 6
          have rf7 := hgx.frozen 7
          have rf8 := hgx.frozen 8
          have rf9 := hgx.frozen 9
          have rf10 := hgx.frozen 10
          have hbt := set11_but (S := fun k => k = gx) (g := gx) (But.refl _ W2) (.inl rfl) (.int .u32 (cz.r 0)) (.int .u32 (cz.r 1)) (.int .u32 (cz.r 2)) (.int .u32 (cz.r 3)) (.int .u32 (cz.r 4)) (.int .u32 (cz.r 5)) (.int .u32 (cz.r 6)) (.int .u32 (cz.r 7)) (.complex .f64 (cz.z 0).1 (cz.z 0).2) (.complex .f64 (cz.z 1).1 (cz.z 1).2) (.int .u32 cz.pc)
          have hblk := set11_blk hgx (.int .u32 (cz.r 0)) (.int .u32 (cz.r 1)) (.int .u32 (cz.r 2)) (.int .u32 (cz.r 3)) (.int .u32 (cz.r 4)) (.int .u32 (cz.r 5)) (.int .u32 (cz.r 6)) (.int .u32 (cz.r 7)) (.complex .f64 (cz.z 0).1 (cz.z 0).2) (.complex .f64 (cz.z 1).1 (cz.z 1).2) (.int .u32 cz.pc)
          go_simp
          refine hK.out _ _ ⟨hS.1.but hbt hgl hgw, hS.2.but hbt hg8⟩ (fun hS => ?_)
          clear hK K r0 r1 r2 r3 r4 r5 r6 r7 r8 r9 r10 rf0 rf1 rf2 rf3 rf4 rf5 rf6 rf7 rf8 rf9 rf10
          refine wpAnyH_take (i := 16) (v := ?_) rfl (by kernel_rfl) (by kernel_rfl) (by kernel_rfl) (fun _ _ _ h => h) (Or.inl ⟨by kernel_rfl, ?_⟩) hS ?_
          rotate_left 1
          · intro w hT
            go_simp
            all_goals with_reducible rfl
          refine wpAnyH_done (by kernel_rfl) ?_ _
          go_simp
          refine hm _ _ (Met.intro (hj _ _ ?_))
          repeat apply Exists.intro
          refine ⟨⟨rfl, gx, rfl, ⟨hS.1.b, fun x hx => ?_⟩, hS.2⟩, rfl⟩
          rcases List.mem_cons.1 hx with rfl | hx
          · exact hblk
          · exact hS.1.k x hx
      · skip
        have hgx := Blk.new Ws 28 #[.int .u32 0, .int .u32 0, .int .u32 0, .int .u32 0, .int .u32 0, .int .u32 0, .int .u32 0, .int .u32 0, .complex .f64 0 0, .complex .f64 0 0, .int .u32 0]
        have hbx := bl_new (Below.refl Ws.heap.size Ws) (.cells #[.int .u32 0, .int .u32 0, .int .u32 0, .int .u32 0, .int .u32 0, .int .u32 0, .int .u32 0, .int .u32 0, .complex .f64 0 0, .complex .f64 0 0, .int .u32 0] 28)
        have hgl : ∀ x ∈ [(g10, c1)], x.1 ≠ Ws.heap.size := fun x hx => Nat.ne_of_lt (hS.1.k x hx).lt
        have hg8 : g13 ≠ Ws.heap.size := Nat.ne_of_lt hS.2.lt
        have hgw : w.heap.size ≤ Ws.heap.size := hS.1.b.size
        have hgsa := hgs.below hbx hgs.lt
        clear hgs
        go_simp
        refine hK.out _ _ ⟨hS.1.below hbx, hS.2.below hbx hS.2.lt⟩ (fun hS => ?_)
        clear hK K hbx
        generalize hwa : Ws.alloc (.cells #[.int .u32 0, .int .u32 0, .int .u32 0, .int .u32 0, .int .u32 0, .int .u32 0, .int .u32 0, .int .u32 0, .complex .f64 0 0, .complex .f64 0 0, .int .u32 0] 28) = Wa at *
        generalize Ws.heap.size = gx at *
        refine wpAnyH_ready (rs := [5]) (by kernel_rfl) (by simp) ?_
        refine AllReadyH.cons rfl (fun K hK => ?_) AllReadyH.nil
        have hcs := (hgsa.cell kn).trans (str6 hk6 HDG.out)
        have hcl := hgsa.lt
        go_simp
        refine hK.out _ _ hS (fun hS => ?_)
        clear hK K hcs
        refine wpAnyH_take (i := 6) (v := ?_) rfl (by kernel_rfl) (by kernel_rfl) (by kernel_rfl) (fun _ _ _ h => h) (Or.inl ⟨by kernel_rfl, ?_⟩) hS ?_
        rotate_left 1
        · intro w hT
          go_simp
          all_goals with_reducible rfl
        refine wpAnyH_take (i := 7) (v := ?_) rfl (by kernel_rfl) (by kernel_rfl) (by kernel_rfl) (fun _ _ _ h => h) (Or.inl ⟨by kernel_rfl, ?_⟩) hS ?_
        rotate_left 1
        · intro w hT
          go_simp
          all_goals with_reducible rfl
        refine wpAnyH_ready (rs := [8]) (by kernel_rfl) (by simp) ?_
        refine AllReadyH.cons rfl (fun K hK => ?_) AllReadyH.nil
        go_simp
        refine (HJZ.out _ hS.1.b).mono ?_
        rintro e W1 ⟨⟨g, A, B, cap, rfl, hM, hg, hB, hBl⟩, hb⟩
        have hBw : w.heap.size ≤ B := Nat.le_trans hS.1.b.size hB
        have hnB : ∀ x ∈ [(g10, c1)], x.1 ≠ B := fun x hx => Nat.ne_of_lt (Nat.lt_of_lt_of_le (hS.1.k x hx).lt hB)
        have hn8 : g13 ≠ B := Nat.ne_of_lt (Nat.lt_of_lt_of_le hS.2.lt hB)
        have hgB : gx ≠ B := Nat.ne_of_lt (Nat.lt_of_lt_of_le hgx.lt hB)
        have hgx := hgx.below hb hgx.lt
        refine hK.out _ _ ⟨hS.1.below hb, hS.2.below hb hS.2.lt⟩ (fun hS => ?_)
        clear hK K hb hg hB
        refine wpAnyH_take (i := 9) (v := ?_) rfl (by kernel_rfl) (by kernel_rfl) (by kernel_rfl) (fun _ _ _ h => h) (Or.inl ⟨by kernel_rfl, ?_⟩) hS ?_
        rotate_left 1
        · intro w hT
          go_simp
          all_goals with_reducible rfl
        refine wpAnyH_ready (rs := [10]) (by kernel_rfl) (by simp) ?_
        refine AllReadyH.cons rfl (fun K hK => ?_) AllReadyH.nil
        have hrun := HS.out W1 hS.1.b g A B cap _ hM hBl hBw (cpuK kn v) (cpuK_ok HV.out)
        rw [RZ.out] at hrun
        have HRUN := Lib.hid (show Calls Tryd.prog 15 #[.agg #[.int .u32 ((cpuK kn v).r 0), .int .u32 ((cpuK kn v).r 1), .int .u32 ((cpuK kn v).r 2), .int .u32 ((cpuK kn v).r 3), .int .u32 ((cpuK kn v).r 4), .int .u32 ((cpuK kn v).r 5), .int .u32 ((cpuK kn v).r 6), .int .u32 ((cpuK kn v).r 7), .complex .f64 0 0, .complex .f64 0 0, .int .u32 0], .iface 31 (.pointer (some ⟨g, 0, none⟩))] W1 fun e w' => e = .returned (.tuple #[.agg #[.int .u32 (cz.r 0), .int .u32 (cz.r 1), .int .u32 (cz.r 2), .int .u32 (cz.r 3), .int .u32 (cz.r 4), .int .u32 (cz.r 5), .int .u32 (cz.r 6), .int .u32 (cz.r 7), .complex .f64 (cz.z 0).1 (cz.z 0).2, .complex .f64 (cz.z 1).1 (cz.z 1).2, .int .u32 cz.pc], .int .i64 0]) ∧ RamAt w' g A B cap _ ∧ But (fun k => k = B) W1 w' from hrun)
        clear hrun
        go_simp
        refine HRUN.out.mono ?_
        rintro e W2 ⟨rfl, hm2, hb2⟩
        have hgx := hgx.but hb2 hgB
        refine hK.out _ _ ⟨hS.1.but hb2 hnB hBw, hS.2.but hb2 hn8⟩ (fun hS => ?_)
        clear hK K hm2 hb2 HRUN hM hBl hBw hnB hn8
        refine wpAnyH_take (i := 11) (v := ?_) rfl (by kernel_rfl) (by kernel_rfl) (by kernel_rfl) (fun _ _ _ h => h) (Or.inl ⟨by kernel_rfl, ?_⟩) hS ?_
        rotate_left 1
        · intro w hT
          go_simp
          all_goals with_reducible rfl
        refine wpAnyH_take (i := 12) (v := ?_) rfl (by kernel_rfl) (by kernel_rfl) (by kernel_rfl) (fun _ _ _ h => h) (Or.inl ⟨by kernel_rfl, ?_⟩) hS ?_
        rotate_left 1
        · intro w hT
          go_simp
          all_goals with_reducible rfl
        refine wpAnyH_take (i := 13) (v := ?_) rfl (by kernel_rfl) (by kernel_rfl) (by kernel_rfl) (fun _ _ _ h => h) (Or.inl ⟨by kernel_rfl, ?_⟩) hS ?_
        rotate_left 1
        · intro w hT
          go_simp
          all_goals with_reducible rfl
        refine wpAnyH_ready (rs := [15]) (by kernel_rfl) (by simp) ?_
        refine AllReadyH.cons rfl (fun K hK => ?_) AllReadyH.nil
        have r0 := (row11 hgx).1
        have r1 := (row11 hgx).2.1
        have r2 := (row11 hgx).2.2.1
        have r3 := (row11 hgx).2.2.2.1
        have r4 := (row11 hgx).2.2.2.2.1
        have r5 := (row11 hgx).2.2.2.2.2.1
        have r6 := (row11 hgx).2.2.2.2.2.2.1
        have r7 := (row11 hgx).2.2.2.2.2.2.2.1
        have r8 := (row11 hgx).2.2.2.2.2.2.2.2.1
        have r9 := (row11 hgx).2.2.2.2.2.2.2.2.2.1
        have r10 := (row11 hgx).2.2.2.2.2.2.2.2.2.2.1
        have rlt := (row11 hgx).2.2.2.2.2.2.2.2.2.2.2
        have rf0 := hgx.frozen 0
        have rf1 := hgx.frozen 1
        have rf2 := hgx.frozen 2
        have rf3 := hgx.frozen 3
        have rf4 := hgx.frozen 4
        have rf5 := hgx.frozen 5
        have rf6 := hgx.frozen 6
        have rf7 := hgx.frozen 7
        have rf8 := hgx.frozen 8
        have rf9 := hgx.frozen 9
        have rf10 := hgx.frozen 10
        have hbt := set11_but (S := fun k => k = gx) (g := gx) (But.refl _ W2) (.inl rfl) (.int .u32 (cz.r 0)) (.int .u32 (cz.r 1)) (.int .u32 (cz.r 2)) (.int .u32 (cz.r 3)) (.int .u32 (cz.r 4)) (.int .u32 (cz.r 5)) (.int .u32 (cz.r 6)) (.int .u32 (cz.r 7)) (.complex .f64 (cz.z 0).1 (cz.z 0).2) (.complex .f64 (cz.z 1).1 (cz.z 1).2) (.int .u32 cz.pc)
        have hblk := set11_blk hgx (.int .u32 (cz.r 0)) (.int .u32 (cz.r 1)) (.int .u32 (cz.r 2)) (.int .u32 (cz.r 3)) (.int .u32 (cz.r 4)) (.int .u32 (cz.r 5)) (.int .u32 (cz.r 6)) (.int .u32 (cz.r 7)) (.complex .f64 (cz.z 0).1 (cz.z 0).2) (.complex .f64 (cz.z 1).1 (cz.z 1).2) (.int .u32 cz.pc)
        go_simp
        refine hK.out _ _ ⟨hS.1.but hbt hgl hgw, hS.2.but hbt hg8⟩ (fun hS => ?_)
        clear hK K r0 r1 r2 r3 r4 r5 r6 r7 r8 r9 r10 rf0 rf1 rf2 rf3 rf4 rf5 rf6 rf7 rf8 rf9 rf10
        refine wpAnyH_take (i := 16) (v := ?_) rfl (by kernel_rfl) (by kernel_rfl) (by kernel_rfl) (fun _ _ _ h => h) (Or.inl ⟨by kernel_rfl, ?_⟩) hS ?_
        rotate_left 1
        · intro w hT
          go_simp
          all_goals with_reducible rfl
        refine wpAnyH_done (by kernel_rfl) ?_ _
        go_simp
        refine hm _ _ (Met.intro (hj _ _ ?_))
        repeat apply Exists.intro
        refine ⟨⟨rfl, gx, rfl, ⟨hS.1.b, fun x hx => ?_⟩, hS.2⟩, rfl⟩
        rcases List.mem_cons.1 hx with rfl | hx
        · exact hblk
        · exact hS.1.k x hx
    · skip
      have hgx := Blk.new Wd 28 #[.int .u32 0, .int .u32 0, .int .u32 0, .int .u32 0, .int .u32 0, .int .u32 0, .int .u32 0, .int .u32 0, .complex .f64 0 0, .complex .f64 0 0, .int .u32 0]
      have hbx := bl_new (Below.refl Wd.heap.size Wd) (.cells #[.int .u32 0, .int .u32 0, .int .u32 0, .int .u32 0, .int .u32 0, .int .u32 0, .int .u32 0, .int .u32 0, .complex .f64 0 0, .complex .f64 0 0, .int .u32 0] 28)
      have hgl : ∀ x ∈ [(g10, c1)], x.1 ≠ Wd.heap.size := fun x hx => Nat.ne_of_lt (hS.1.k x hx).lt
      have hg8 : g13 ≠ Wd.heap.size := Nat.ne_of_lt hS.2.lt
      have hgw : w.heap.size ≤ Wd.heap.size := hS.1.b.size
      go_simp
      refine hK.out _ _ ⟨hS.1.below hbx, hS.2.below hbx hS.2.lt⟩ (fun hS => ?_)
      clear hK K hbx
      generalize hwa : Wd.alloc (.cells #[.int .u32 0, .int .u32 0, .int .u32 0, .int .u32 0, .int .u32 0, .int .u32 0, .int .u32 0, .int .u32 0, .complex .f64 0 0, .complex .f64 0 0, .int .u32 0] 28) = Wa at *
      generalize Wd.heap.size = gx at *
      refine wpAnyH_ready (rs := [2]) (by kernel_rfl) (by simp) ?_
      refine AllReadyH.cons rfl (fun K hK => ?_) AllReadyH.nil
      have hgs := Blk.new Wa 9 #[.string ⟨#[48]⟩, .string ⟨#[49]⟩, .string ⟨#[50]⟩, .string ⟨#[51]⟩, .string ⟨#[52]⟩, .string ⟨#[53]⟩]
      have hbs := bl_new (Below.refl Wa.heap.size Wa) (.cells #[.string ⟨#[48]⟩, .string ⟨#[49]⟩, .string ⟨#[50]⟩, .string ⟨#[51]⟩, .string ⟨#[52]⟩, .string ⟨#[53]⟩] 9)
      have hgxa := hgx.below hbs hgx.lt
      clear hgx
      have hgx := hgxa
      clear hgxa
      go_simp
      refine hK.out _ _ ⟨hS.1.below hbs, hS.2.below hbs hS.2.lt⟩ (fun hS => ?_)
      clear hK K hbs
      generalize hws : Wa.alloc (.cells #[.string ⟨#[48]⟩, .string ⟨#[49]⟩, .string ⟨#[50]⟩, .string ⟨#[51]⟩, .string ⟨#[52]⟩, .string ⟨#[53]⟩] 9) = Ws at *
      generalize Wa.heap.size = gs at *
      refine wpAnyH_take (i := 4) (v := ?_) rfl (by kernel_rfl) (by kernel_rfl) (by kernel_rfl) (fun _ _ _ h => h) (Or.inl ⟨by kernel_rfl, ?_⟩) hS ?_
      rotate_left 1
      · intro w hT
        go_simp
        all_goals with_reducible rfl
      refine wpAnyH_ready (rs := [5]) (by kernel_rfl) (by simp) ?_
      refine AllReadyH.cons rfl (fun K hK => ?_) AllReadyH.nil
      have hcs := (hgs.cell kn).trans (str6 hk6 HDG.out)
      have hcl := hgs.lt
      go_simp
      refine hK.out _ _ hS (fun hS => ?_)
      clear hK K hcs
      refine wpAnyH_take (i := 6) (v := ?_) rfl (by kernel_rfl) (by kernel_rfl) (by kernel_rfl) (fun _ _ _ h => h) (Or.inl ⟨by kernel_rfl, ?_⟩) hS ?_
      rotate_left 1
      · intro w hT
        go_simp
        all_goals with_reducible rfl
      refine wpAnyH_take (i := 7) (v := ?_) rfl (by kernel_rfl) (by kernel_rfl) (by kernel_rfl) (fun _ _ _ h => h) (Or.inl ⟨by kernel_rfl, ?_⟩) hS ?_
      rotate_left 1
      · intro w hT
        go_simp
        all_goals with_reducible rfl
      refine wpAnyH_ready (rs := [8]) (by kernel_rfl) (by simp) ?_
      refine AllReadyH.cons rfl (fun K hK => ?_) AllReadyH.nil
      go_simp
      refine (HJZ.out _ hS.1.b).mono ?_
      rintro e W1 ⟨⟨g, A, B, cap, rfl, hM, hg, hB, hBl⟩, hb⟩
      have hBw : w.heap.size ≤ B := Nat.le_trans hS.1.b.size hB
      have hnB : ∀ x ∈ [(g10, c1)], x.1 ≠ B := fun x hx => Nat.ne_of_lt (Nat.lt_of_lt_of_le (hS.1.k x hx).lt hB)
      have hn8 : g13 ≠ B := Nat.ne_of_lt (Nat.lt_of_lt_of_le hS.2.lt hB)
      have hgB : gx ≠ B := Nat.ne_of_lt (Nat.lt_of_lt_of_le hgx.lt hB)
      have hgx := hgx.below hb hgx.lt
      refine hK.out _ _ ⟨hS.1.below hb, hS.2.below hb hS.2.lt⟩ (fun hS => ?_)
      clear hK K hb hg hB
      refine wpAnyH_take (i := 9) (v := ?_) rfl (by kernel_rfl) (by kernel_rfl) (by kernel_rfl) (fun _ _ _ h => h) (Or.inl ⟨by kernel_rfl, ?_⟩) hS ?_
      rotate_left 1
      · intro w hT
        go_simp
        all_goals with_reducible rfl
      refine wpAnyH_ready (rs := [10]) (by kernel_rfl) (by simp) ?_
      refine AllReadyH.cons rfl (fun K hK => ?_) AllReadyH.nil
      have hrun := HS.out W1 hS.1.b g A B cap _ hM hBl hBw (cpuK kn v) (cpuK_ok HV.out)
      rw [RZ.out] at hrun
      have HRUN := Lib.hid (show Calls Tryd.prog 15 #[.agg #[.int .u32 ((cpuK kn v).r 0), .int .u32 ((cpuK kn v).r 1), .int .u32 ((cpuK kn v).r 2), .int .u32 ((cpuK kn v).r 3), .int .u32 ((cpuK kn v).r 4), .int .u32 ((cpuK kn v).r 5), .int .u32 ((cpuK kn v).r 6), .int .u32 ((cpuK kn v).r 7), .complex .f64 0 0, .complex .f64 0 0, .int .u32 0], .iface 31 (.pointer (some ⟨g, 0, none⟩))] W1 fun e w' => e = .returned (.tuple #[.agg #[.int .u32 (cz.r 0), .int .u32 (cz.r 1), .int .u32 (cz.r 2), .int .u32 (cz.r 3), .int .u32 (cz.r 4), .int .u32 (cz.r 5), .int .u32 (cz.r 6), .int .u32 (cz.r 7), .complex .f64 (cz.z 0).1 (cz.z 0).2, .complex .f64 (cz.z 1).1 (cz.z 1).2, .int .u32 cz.pc], .int .i64 0]) ∧ RamAt w' g A B cap _ ∧ But (fun k => k = B) W1 w' from hrun)
      clear hrun
      go_simp
      refine HRUN.out.mono ?_
      rintro e W2 ⟨rfl, hm2, hb2⟩
      have hgx := hgx.but hb2 hgB
      refine hK.out _ _ ⟨hS.1.but hb2 hnB hBw, hS.2.but hb2 hn8⟩ (fun hS => ?_)
      clear hK K hm2 hb2 HRUN hM hBl hBw hnB hn8
      refine wpAnyH_take (i := 11) (v := ?_) rfl (by kernel_rfl) (by kernel_rfl) (by kernel_rfl) (fun _ _ _ h => h) (Or.inl ⟨by kernel_rfl, ?_⟩) hS ?_
      rotate_left 1
      · intro w hT
        go_simp
        all_goals with_reducible rfl
      refine wpAnyH_take (i := 12) (v := ?_) rfl (by kernel_rfl) (by kernel_rfl) (by kernel_rfl) (fun _ _ _ h => h) (Or.inl ⟨by kernel_rfl, ?_⟩) hS ?_
      rotate_left 1
      · intro w hT
        go_simp
        all_goals with_reducible rfl
      refine wpAnyH_take (i := 13) (v := ?_) rfl (by kernel_rfl) (by kernel_rfl) (by kernel_rfl) (fun _ _ _ h => h) (Or.inl ⟨by kernel_rfl, ?_⟩) hS ?_
      rotate_left 1
      · intro w hT
        go_simp
        all_goals with_reducible rfl
      refine wpAnyH_ready (rs := [15]) (by kernel_rfl) (by simp) ?_
      refine AllReadyH.cons rfl (fun K hK => ?_) AllReadyH.nil
      have r0 := (row11 hgx).1
      have r1 := (row11 hgx).2.1
      have r2 := (row11 hgx).2.2.1
      have r3 := (row11 hgx).2.2.2.1
      have r4 := (row11 hgx).2.2.2.2.1
      have r5 := (row11 hgx).2.2.2.2.2.1
      have r6 := (row11 hgx).2.2.2.2.2.2.1
      have r7 := (row11 hgx).2.2.2.2.2.2.2.1
      have r8 := (row11 hgx).2.2.2.2.2.2.2.2.1
      have r9 := (row11 hgx).2.2.2.2.2.2.2.2.2.1
      have r10 := (row11 hgx).2.2.2.2.2.2.2.2.2.2.1
      have rlt := (row11 hgx).2.2.2.2.2.2.2.2.2.2.2
      have rf0 := hgx.frozen 0
      have rf1 := hgx.frozen 1
      have rf2 := hgx.frozen 2
      have rf3 := hgx.frozen 3
      have rf4 := hgx.frozen 4
      have rf5 := hgx.frozen 5
      have rf6 := hgx.frozen 6
      have rf7 := hgx.frozen 7
      have rf8 := hgx.frozen 8
      have rf9 := hgx.frozen 9
      have rf10 := hgx.frozen 10
      have hbt := set11_but (S := fun k => k = gx) (g := gx) (But.refl _ W2) (.inl rfl) (.int .u32 (cz.r 0)) (.int .u32 (cz.r 1)) (.int .u32 (cz.r 2)) (.int .u32 (cz.r 3)) (.int .u32 (cz.r 4)) (.int .u32 (cz.r 5)) (.int .u32 (cz.r 6)) (.int .u32 (cz.r 7)) (.complex .f64 (cz.z 0).1 (cz.z 0).2) (.complex .f64 (cz.z 1).1 (cz.z 1).2) (.int .u32 cz.pc)
      have hblk := set11_blk hgx (.int .u32 (cz.r 0)) (.int .u32 (cz.r 1)) (.int .u32 (cz.r 2)) (.int .u32 (cz.r 3)) (.int .u32 (cz.r 4)) (.int .u32 (cz.r 5)) (.int .u32 (cz.r 6)) (.int .u32 (cz.r 7)) (.complex .f64 (cz.z 0).1 (cz.z 0).2) (.complex .f64 (cz.z 1).1 (cz.z 1).2) (.int .u32 cz.pc)
      go_simp
      refine hK.out _ _ ⟨hS.1.but hbt hgl hgw, hS.2.but hbt hg8⟩ (fun hS => ?_)
      clear hK K r0 r1 r2 r3 r4 r5 r6 r7 r8 r9 r10 rf0 rf1 rf2 rf3 rf4 rf5 rf6 rf7 rf8 rf9 rf10
      refine wpAnyH_take (i := 16) (v := ?_) rfl (by kernel_rfl) (by kernel_rfl) (by kernel_rfl) (fun _ _ _ h => h) (Or.inl ⟨by kernel_rfl, ?_⟩) hS ?_
      rotate_left 1
      · intro w hT
        go_simp
        all_goals with_reducible rfl
      refine wpAnyH_done (by kernel_rfl) ?_ _
      go_simp
      refine hm _ _ (Met.intro (hj _ _ ?_))
      repeat apply Exists.intro
      refine ⟨⟨rfl, gx, rfl, ⟨hS.1.b, fun x hx => ?_⟩, hS.2⟩, rfl⟩
      rcases List.mem_cons.1 hx with rfl | hx
      · exact hblk
      · exact hS.1.k x hx
  case rest =>
  obtain ⟨rfl, g14, rfl, hkb, h13⟩ := hcut
  go_upto_region 8 with (fail)
  go_cut [16, 17] from 53 to 66 (fun pp tt wx => tt = .int .i64 0 ∧ ∃ gx, pp = .pointer (some ⟨gx, 0, none⟩) ∧ KB w ((gx, cy) :: [(g14, cz), (g10, c1)]) wx ∧ Blk wx g13 24 #[.int .u32 ((cpuK kn v).r 0), .int .u32 ((cpuK kn v).r 1), .int .u32 ((cpuK kn v).r 2), .int .u32 ((cpuK kn v).r 3), .int .u32 ((cpuK kn v).r 4), .int .u32 ((cpuK kn v).r 5), .int .u32 ((cpuK kn v).r 6), .int .u32 ((cpuK kn v).r 7)])
  case first =>
    rename_i hj hm
    refine wp_region_held_drew (S := fun W => KB w [(g14, cz), (g10, c1)] W ∧ Blk W g13 24 #[.int .u32 ((cpuK kn v).r 0), .int .u32 ((cpuK kn v).r 1), .int .u32 ((cpuK kn v).r 2), .int .u32 ((cpuK kn v).r 3), .int .u32 ((cpuK kn v).r 4), .int .u32 ((cpuK kn v).r 5), .int .u32 ((cpuK kn v).r 6), .int .u32 ((cpuK kn v).r 7)]) (by kernel_rfl) ⟨hkb.below (Below.refl _ _).drew, h13.below (Below.refl _ _).drew h13.lt⟩ (fun hS => ?_)
    generalize wc.drew = Wd at *
    refine wpAnyH_take (i := 0) (v := ?_) rfl (by kernel_rfl) (by kernel_rfl) (by kernel_rfl) (fun _ _ _ h => h) (Or.inl ⟨by kernel_rfl, ?_⟩) hS ?_
    rotate_left 1
    · intro w hT
      have c0 := hT.2.cell 0
      have c1 := hT.2.cell 1
      have c2 := hT.2.cell 2
      have c3 := hT.2.cell 3
      have c4 := hT.2.cell 4
      have c5 := hT.2.cell 5
      have c6 := hT.2.cell 6
      have c7 := hT.2.cell 7
      have clt := hT.2.lt
      simp only [List.getElem?_toArray, List.getElem?_cons_zero, List.getElem?_cons_succ] at c0 c1 c2 c3 c4 c5 c6 c7
      go_simp
      all_goals with_reducible rfl
    refine wpAnyH_take (i := 1) (v := ?_) rfl (by kernel_rfl) (by kernel_rfl) (by kernel_rfl) (fun _ _ _ h => h) (Or.inl ⟨by kernel_rfl, ?_⟩) hS ?_
    rotate_left 1
    · intro w hT
      go_simp
      all_goals with_reducible rfl
    refine wpAnyH_take (i := 3) (v := ?_) rfl (by kernel_rfl) (by kernel_rfl) (by kernel_rfl) (fun _ _ _ h => h) (Or.inl ⟨by kernel_rfl, ?_⟩) hS ?_
    rotate_left 1
    · intro w hT
      go_simp
      all_goals with_reducible rfl
    refine wpAnyH_ready (rs := [2, 14]) (by kernel_rfl) (by simp) ?_
    refine AllReadyH.cons rfl (fun K hK => ?_) (AllReadyH.cons rfl (fun K hK => ?_) AllReadyH.nil)
    · skip
      have hgs := Blk.new Wd 9 #[.string ⟨#[48]⟩, .string ⟨#[49]⟩, .string ⟨#[50]⟩, .string ⟨#[51]⟩, .string ⟨#[52]⟩, .string ⟨#[53]⟩]
      have hbs := bl_new (Below.refl Wd.heap.size Wd) (.cells #[.string ⟨#[48]⟩, .string ⟨#[49]⟩, .string ⟨#[50]⟩, .string ⟨#[51]⟩, .string ⟨#[52]⟩, .string ⟨#[53]⟩] 9)
      go_simp
      refine hK.out _ _ ⟨hS.1.below hbs, hS.2.below hbs hS.2.lt⟩ (fun hS => ?_)
      clear hK K hbs
      generalize hws : Wd.alloc (.cells #[.string ⟨#[48]⟩, .string ⟨#[49]⟩, .string ⟨#[50]⟩, .string ⟨#[51]⟩, .string ⟨#[52]⟩, .string ⟨#[53]⟩] 9) = Ws at *
      generalize Wd.heap.size = gs at *
      refine wpAnyH_take (i := 4) (v := ?_) rfl (by kernel_rfl) (by kernel_rfl) (by kernel_rfl) (fun _ _ _ h => h) (Or.inl ⟨by kernel_rfl, ?_⟩) hS ?_
      rotate_left 1
      · intro w hT
        go_simp
        all_goals with_reducible rfl
      refine wpAnyH_ready (rs := [5, 14]) (by kernel_rfl) (by simp) ?_
      refine AllReadyH.cons rfl (fun K hK => ?_) (AllReadyH.cons rfl (fun K hK => ?_) AllReadyH.nil)
      · skip
        have hcs := (hgs.cell kn).trans (str6 hk6 HDG.out)
        have hcl := hgs.lt
        go_simp
        refine hK.out _ _ hS (fun hS => ?_)
        clear hK K hcs
        refine wpAnyH_take (i := 6) (v := ?_) rfl (by kernel_rfl) (by kernel_rfl) (by kernel_rfl) (fun _ _ _ h => h) (Or.inl ⟨by kernel_rfl, ?_⟩) hS ?_
        rotate_left 1
        · intro w hT
          go_simp
          all_goals with_reducible rfl
        refine wpAnyH_take (i := 7) (v := ?_) rfl (by kernel_rfl) (by kernel_rfl) (by kernel_rfl) (fun _ _ _ h => h) (Or.inl ⟨by kernel_rfl, ?_⟩) hS ?_
        rotate_left 1
        · intro w hT
          go_simp
          all_goals with_reducible rfl
        refine wpAnyH_ready (rs := [8, 14]) (by kernel_rfl) (by simp) ?_
        refine AllReadyH.cons rfl (fun K hK => ?_) (AllReadyH.cons rfl (fun K hK => ?_) AllReadyH.nil)
        · skip
          go_simp
          refine (HJN.out _ hS.1.b).mono ?_
          rintro e W1 ⟨⟨g, A, B, cap, rfl, hM, hg, hB, hBl⟩, hb⟩
          have hBw : w.heap.size ≤ B := Nat.le_trans hS.1.b.size hB
          have hnB : ∀ x ∈ [(g14, cz), (g10, c1)], x.1 ≠ B := fun x hx => Nat.ne_of_lt (Nat.lt_of_lt_of_le (hS.1.k x hx).lt hB)
          have hn8 : g13 ≠ B := Nat.ne_of_lt (Nat.lt_of_lt_of_le hS.2.lt hB)
          refine hK.out _ _ ⟨hS.1.below hb, hS.2.below hb hS.2.lt⟩ (fun hS => ?_)
          clear hK K hb hg hB
          refine wpAnyH_take (i := 9) (v := ?_) rfl (by kernel_rfl) (by kernel_rfl) (by kernel_rfl) (fun _ _ _ h => h) (Or.inl ⟨by kernel_rfl, ?_⟩) hS ?_
          rotate_left 1
          · intro w hT
            go_simp
            all_goals with_reducible rfl
          refine wpAnyH_ready (rs := [10, 14]) (by kernel_rfl) (by simp) ?_
          refine AllReadyH.cons rfl (fun K hK => ?_) (AllReadyH.cons rfl (fun K hK => ?_) AllReadyH.nil)
          · skip
            have hrun := HS.out W1 hS.1.b g A B cap _ hM hBl hBw (cpuK kn v) (cpuK_ok HV.out)
            rw [RY.out] at hrun
            have HRUN := Lib.hid (show Calls Tryd.prog 15 #[.agg #[.int .u32 ((cpuK kn v).r 0), .int .u32 ((cpuK kn v).r 1), .int .u32 ((cpuK kn v).r 2), .int .u32 ((cpuK kn v).r 3), .int .u32 ((cpuK kn v).r 4), .int .u32 ((cpuK kn v).r 5), .int .u32 ((cpuK kn v).r 6), .int .u32 ((cpuK kn v).r 7), .complex .f64 0 0, .complex .f64 0 0, .int .u32 0], .iface 31 (.pointer (some ⟨g, 0, none⟩))] W1 fun e w' => e = .returned (.tuple #[.agg #[.int .u32 (cy.r 0), .int .u32 (cy.r 1), .int .u32 (cy.r 2), .int .u32 (cy.r 3), .int .u32 (cy.r 4), .int .u32 (cy.r 5), .int .u32 (cy.r 6), .int .u32 (cy.r 7), .complex .f64 (cy.z 0).1 (cy.z 0).2, .complex .f64 (cy.z 1).1 (cy.z 1).2, .int .u32 cy.pc], .int .i64 0]) ∧ RamAt w' g A B cap _ ∧ But (fun k => k = B) W1 w' from hrun)
            clear hrun
            go_simp
            refine HRUN.out.mono ?_
            rintro e W2 ⟨rfl, hm2, hb2⟩
            refine hK.out _ _ ⟨hS.1.but hb2 hnB hBw, hS.2.but hb2 hn8⟩ (fun hS => ?_)
            clear hK K hm2 hb2 HRUN hM hBl hBw hnB hn8
            refine wpAnyH_take (i := 11) (v := ?_) rfl (by kernel_rfl) (by kernel_rfl) (by kernel_rfl) (fun _ _ _ h => h) (Or.inl ⟨by kernel_rfl, ?_⟩) hS ?_
            rotate_left 1
            · intro w hT
              go_simp
              all_goals with_reducible rfl
            refine wpAnyH_take (i := 12) (v := ?_) rfl (by kernel_rfl) (by kernel_rfl) (by kernel_rfl) (fun _ _ _ h => h) (Or.inl ⟨by kernel_rfl, ?_⟩) hS ?_
            rotate_left 1
            · intro w hT
              go_simp
              all_goals with_reducible rfl
            refine wpAnyH_take (i := 13) (v := ?_) rfl (by kernel_rfl) (by kernel_rfl) (by kernel_rfl) (fun _ _ _ h => h) (Or.inl ⟨by kernel_rfl, ?_⟩) hS ?_
            rotate_left 1
            · intro w hT
              go_simp
              all_goals with_reducible rfl
            refine wpAnyH_ready (rs := [14]) (by kernel_rfl) (by simp) ?_
            refine AllReadyH.cons rfl (fun K hK => ?_) AllReadyH.nil
            have hgx := Blk.new W2 28 #[.int .u32 0, .int .u32 0, .int .u32 0, .int .u32 0, .int .u32 0, .int .u32 0, .int .u32 0, .int .u32 0, .complex .f64 0 0, .complex .f64 0 0, .int .u32 0]
            have hbx := bl_new (Below.refl W2.heap.size W2) (.cells #[.int .u32 0, .int .u32 0, .int .u32 0, .int .u32 0, .int .u32 0, .int .u32 0, .int .u32 0, .int .u32 0, .complex .f64 0 0, .complex .f64 0 0, .int .u32 0] 28)
            have hgl : ∀ x ∈ [(g14, cz), (g10, c1)], x.1 ≠ W2.heap.size := fun x hx => Nat.ne_of_lt (hS.1.k x hx).lt
            have hg8 : g13 ≠ W2.heap.size := Nat.ne_of_lt hS.2.lt
            have hgw : w.heap.size ≤ W2.heap.size := hS.1.b.size
            go_simp
            refine hK.out _ _ ⟨hS.1.below hbx, hS.2.below hbx hS.2.lt⟩ (fun hS => ?_)
            clear hK K hbx
            generalize hwa : W2.alloc (.cells #[.int .u32 0, .int .u32 0, .int .u32 0, .int .u32 0, .int .u32 0, .int .u32 0, .int .u32 0, .int .u32 0, .complex .f64 0 0, .complex .f64 0 0, .int .u32 0] 28) = Wa at *
            generalize W2.heap.size = gx at *
            refine wpAnyH_ready (rs := [15]) (by kernel_rfl) (by simp) ?_
            refine AllReadyH.cons rfl (fun K hK => ?_) AllReadyH.nil
            have r0 := (row11 hgx).1
            have r1 := (row11 hgx).2.1
            have r2 := (row11 hgx).2.2.1
            have r3 := (row11 hgx).2.2.2.1
            have r4 := (row11 hgx).2.2.2.2.1
            have r5 := (row11 hgx).2.2.2.2.2.1
            have r6 := (row11 hgx).2.2.2.2.2.2.1
            have r7 := (row11 hgx).2.2.2.2.2.2.2.1
            have r8 := (row11 hgx).2.2.2.2.2.2.2.2.1
            have r9 := (row11 hgx).2.2.2.2.2.2.2.2.2.1
            have r10 := (row11 hgx).2.2.2.2.2.2.2.2.2.2.1
            have rlt := (row11 hgx).2.2.2.2.2.2.2.2.2.2.2
            have rf0 := hgx.frozen 0
            have rf1 := hgx.frozen 1
            have rf2 := hgx.frozen 2
            have rf3 := hgx.frozen 3
            have rf4 := hgx.frozen 4
            have rf5 := hgx.frozen 5
            have rf6 := hgx.frozen 6
            have rf7 := hgx.frozen 7
            have rf8 := hgx.frozen 8
            have rf9 := hgx.frozen 9
            have rf10 := hgx.frozen 10
            have hbt := set11_but (S := fun k => k = gx) (g := gx) (But.refl _ Wa) (.inl rfl) (.int .u32 (cy.r 0)) (.int .u32 (cy.r 1)) (.int .u32 (cy.r 2)) (.int .u32 (cy.r 3)) (.int .u32 (cy.r 4)) (.int .u32 (cy.r 5)) (.int .u32 (cy.r 6)) (.int .u32 (cy.r 7)) (.complex .f64 (cy.z 0).1 (cy.z 0).2) (.complex .f64 (cy.z 1).1 (cy.z 1).2) (.int .u32 cy.pc)
            have hblk := set11_blk hgx (.int .u32 (cy.r 0)) (.int .u32 (cy.r 1)) (.int .u32 (cy.r 2)) (.int .u32 (cy.r 3)) (.int .u32 (cy.r 4)) (.int .u32 (cy.r 5)) (.int .u32 (cy.r 6)) (.int .u32 (cy.r 7)) (.complex .f64 (cy.z 0).1 (cy.z 0).2) (.complex .f64 (cy.z 1).1 (cy.z 1).2) (.int .u32 cy.pc)
            go_simp
            refine hK.out _ _ ⟨hS.1.but hbt hgl hgw, hS.2.but hbt hg8⟩ (fun hS => ?_)
            clear hK K r0 r1 r2 r3 r4 r5 r6 r7 r8 r9 r10 rf0 rf1 rf2 rf3 rf4 rf5 rf6 rf7 rf8 rf9 rf10
            refine wpAnyH_take (i := 16) (v := ?_) rfl (by kernel_rfl) (by kernel_rfl) (by kernel_rfl) (fun _ _ _ h => h) (Or.inl ⟨by kernel_rfl, ?_⟩) hS ?_
            rotate_left 1
            · intro w hT
              go_simp
              all_goals with_reducible rfl
            refine wpAnyH_done (by kernel_rfl) ?_ _
            go_simp
            refine hm _ _ (Met.intro (hj _ _ ?_))
            repeat apply Exists.intro
            refine ⟨⟨rfl, gx, rfl, ⟨hS.1.b, fun x hx => ?_⟩, hS.2⟩, rfl⟩
            rcases List.mem_cons.1 hx with rfl | hx
            · exact hblk
            · exact hS.1.k x hx
          · skip
            have hgx := Blk.new W1 28 #[.int .u32 0, .int .u32 0, .int .u32 0, .int .u32 0, .int .u32 0, .int .u32 0, .int .u32 0, .int .u32 0, .complex .f64 0 0, .complex .f64 0 0, .int .u32 0]
            have hbx := bl_new (Below.refl W1.heap.size W1) (.cells #[.int .u32 0, .int .u32 0, .int .u32 0, .int .u32 0, .int .u32 0, .int .u32 0, .int .u32 0, .int .u32 0, .complex .f64 0 0, .complex .f64 0 0, .int .u32 0] 28)
            have hgl : ∀ x ∈ [(g14, cz), (g10, c1)], x.1 ≠ W1.heap.size := fun x hx => Nat.ne_of_lt (hS.1.k x hx).lt
            have hg8 : g13 ≠ W1.heap.size := Nat.ne_of_lt hS.2.lt
            have hgw : w.heap.size ≤ W1.heap.size := hS.1.b.size
            have hMa := hM.below hbx
            have hgB : W1.heap.size ≠ B := Nat.ne_of_gt hBl
            have hBla := Nat.lt_of_lt_of_le hBl hbx.size
            clear hM hBl
            go_simp
            refine hK.out _ _ ⟨hS.1.below hbx, hS.2.below hbx hS.2.lt⟩ (fun hS => ?_)
            clear hK K hbx
            generalize hwa : W1.alloc (.cells #[.int .u32 0, .int .u32 0, .int .u32 0, .int .u32 0, .int .u32 0, .int .u32 0, .int .u32 0, .int .u32 0, .complex .f64 0 0, .complex .f64 0 0, .int .u32 0] 28) = Wa at *
            generalize W1.heap.size = gx at *
            refine wpAnyH_ready (rs := [10]) (by kernel_rfl) (by simp) ?_
            refine AllReadyH.cons rfl (fun K hK => ?_) AllReadyH.nil
            have hrun := HS.out Wa hS.1.b g A B cap _ hMa hBla hBw (cpuK kn v) (cpuK_ok HV.out)
            rw [RY.out] at hrun
            have HRUN := Lib.hid (show Calls Tryd.prog 15 #[.agg #[.int .u32 ((cpuK kn v).r 0), .int .u32 ((cpuK kn v).r 1), .int .u32 ((cpuK kn v).r 2), .int .u32 ((cpuK kn v).r 3), .int .u32 ((cpuK kn v).r 4), .int .u32 ((cpuK kn v).r 5), .int .u32 ((cpuK kn v).r 6), .int .u32 ((cpuK kn v).r 7), .complex .f64 0 0, .complex .f64 0 0, .int .u32 0], .iface 31 (.pointer (some ⟨g, 0, none⟩))] Wa fun e w' => e = .returned (.tuple #[.agg #[.int .u32 (cy.r 0), .int .u32 (cy.r 1), .int .u32 (cy.r 2), .int .u32 (cy.r 3), .int .u32 (cy.r 4), .int .u32 (cy.r 5), .int .u32 (cy.r 6), .int .u32 (cy.r 7), .complex .f64 (cy.z 0).1 (cy.z 0).2, .complex .f64 (cy.z 1).1 (cy.z 1).2, .int .u32 cy.pc], .int .i64 0]) ∧ RamAt w' g A B cap _ ∧ But (fun k => k = B) Wa w' from hrun)
            clear hrun
            go_simp
            refine HRUN.out.mono ?_
            rintro e W2 ⟨rfl, hm2, hb2⟩
            have hgx := hgx.but hb2 hgB
            refine hK.out _ _ ⟨hS.1.but hb2 hnB hBw, hS.2.but hb2 hn8⟩ (fun hS => ?_)
            clear hK K hm2 hb2 HRUN hMa hBla hBw hnB hn8
            refine wpAnyH_take (i := 11) (v := ?_) rfl (by kernel_rfl) (by kernel_rfl) (by kernel_rfl) (fun _ _ _ h => h) (Or.inl ⟨by kernel_rfl, ?_⟩) hS ?_
            rotate_left 1
            · intro w hT
              go_simp
              all_goals with_reducible rfl
            refine wpAnyH_take (i := 12) (v := ?_) rfl (by kernel_rfl) (by kernel_rfl) (by kernel_rfl) (fun _ _ _ h => h) (Or.inl ⟨by kernel_rfl, ?_⟩) hS ?_
            rotate_left 1
            · intro w hT
              go_simp
              all_goals with_reducible rfl
            refine wpAnyH_take (i := 13) (v := ?_) rfl (by kernel_rfl) (by kernel_rfl) (by kernel_rfl) (fun _ _ _ h => h) (Or.inl ⟨by kernel_rfl, ?_⟩) hS ?_
            rotate_left 1
            · intro w hT
              go_simp
              all_goals with_reducible rfl
            refine wpAnyH_ready (rs := [15]) (by kernel_rfl) (by simp) ?_
            refine AllReadyH.cons rfl (fun K hK => ?_) AllReadyH.nil
            have r0 := (row11 hgx).1
            have r1 := (row11 hgx).2.1
            have r2 := (row11 hgx).2.2.1
            have r3 := (row11 hgx).2.2.2.1
            have r4 := (row11 hgx).2.2.2.2.1
            have r5 := (row11 hgx).2.2.2.2.2.1
            have r6 := (row11 hgx).2.2.2.2.2.2.1
            have r7 := (row11 hgx).2.2.2.2.2.2.2.1
            have r8 := (row11 hgx).2.2.2.2.2.2.2.2.1
            have r9 := (row11 hgx).2.2.2.2.2.2.2.2.2.1
            have r10 := (row11 hgx).2.2.2.2.2.2.2.2.2.2.1
            have rlt := (row11 hgx).2.2.2.2.2.2.2.2.2.2.2
            have rf0 := hgx.frozen 0
            have rf1 := hgx.frozen 1
            have rf2 := hgx.frozen 2
            have rf3 := hgx.frozen 3
            have rf4 := hgx.frozen 4
            have rf5 := hgx.frozen 5
            have rf6 := hgx.frozen 6
            have rf7 := hgx.frozen 7
            have rf8 := hgx.frozen 8
            have rf9 := hgx.frozen 9
            have rf10 := hgx.frozen 10
            have hbt := set11_but (S := fun k => k = gx) (g := gx) (But.refl _ W2) (.inl rfl) (.int .u32 (cy.r 0)) (.int .u32 (cy.r 1)) (.int .u32 (cy.r 2)) (.int .u32 (cy.r 3)) (.int .u32 (cy.r 4)) (.int .u32 (cy.r 5)) (.int .u32 (cy.r 6)) (.int .u32 (cy.r 7)) (.complex .f64 (cy.z 0).1 (cy.z 0).2) (.complex .f64 (cy.z 1).1 (cy.z 1).2) (.int .u32 cy.pc)
            have hblk := set11_blk hgx (.int .u32 (cy.r 0)) (.int .u32 (cy.r 1)) (.int .u32 (cy.r 2)) (.int .u32 (cy.r 3)) (.int .u32 (cy.r 4)) (.int .u32 (cy.r 5)) (.int .u32 (cy.r 6)) (.int .u32 (cy.r 7)) (.complex .f64 (cy.z 0).1 (cy.z 0).2) (.complex .f64 (cy.z 1).1 (cy.z 1).2) (.int .u32 cy.pc)
            go_simp
            refine hK.out _ _ ⟨hS.1.but hbt hgl hgw, hS.2.but hbt hg8⟩ (fun hS => ?_)
            clear hK K r0 r1 r2 r3 r4 r5 r6 r7 r8 r9 r10 rf0 rf1 rf2 rf3 rf4 rf5 rf6 rf7 rf8 rf9 rf10
            refine wpAnyH_take (i := 16) (v := ?_) rfl (by kernel_rfl) (by kernel_rfl) (by kernel_rfl) (fun _ _ _ h => h) (Or.inl ⟨by kernel_rfl, ?_⟩) hS ?_
            rotate_left 1
            · intro w hT
              go_simp
              all_goals with_reducible rfl
            refine wpAnyH_done (by kernel_rfl) ?_ _
            go_simp
            refine hm _ _ (Met.intro (hj _ _ ?_))
            repeat apply Exists.intro
            refine ⟨⟨rfl, gx, rfl, ⟨hS.1.b, fun x hx => ?_⟩, hS.2⟩, rfl⟩
            rcases List.mem_cons.1 hx with rfl | hx
            · exact hblk
            · exact hS.1.k x hx
        · skip
          have hgx := Blk.new Ws 28 #[.int .u32 0, .int .u32 0, .int .u32 0, .int .u32 0, .int .u32 0, .int .u32 0, .int .u32 0, .int .u32 0, .complex .f64 0 0, .complex .f64 0 0, .int .u32 0]
          have hbx := bl_new (Below.refl Ws.heap.size Ws) (.cells #[.int .u32 0, .int .u32 0, .int .u32 0, .int .u32 0, .int .u32 0, .int .u32 0, .int .u32 0, .int .u32 0, .complex .f64 0 0, .complex .f64 0 0, .int .u32 0] 28)
          have hgl : ∀ x ∈ [(g14, cz), (g10, c1)], x.1 ≠ Ws.heap.size := fun x hx => Nat.ne_of_lt (hS.1.k x hx).lt
          have hg8 : g13 ≠ Ws.heap.size := Nat.ne_of_lt hS.2.lt
          have hgw : w.heap.size ≤ Ws.heap.size := hS.1.b.size
          go_simp
          refine hK.out _ _ ⟨hS.1.below hbx, hS.2.below hbx hS.2.lt⟩ (fun hS => ?_)
          clear hK K hbx
          generalize hwa : Ws.alloc (.cells #[.int .u32 0, .int .u32 0, .int .u32 0, .int .u32 0, .int .u32 0, .int .u32 0, .int .u32 0, .int .u32 0, .complex .f64 0 0, .complex .f64 0 0, .int .u32 0] 28) = Wa at *
          generalize Ws.heap.size = gx at *
          refine wpAnyH_ready (rs := [8]) (by kernel_rfl) (by simp) ?_
          refine AllReadyH.cons rfl (fun K hK => ?_) AllReadyH.nil
          go_simp
          refine (HJN.out _ hS.1.b).mono ?_
          rintro e W1 ⟨⟨g, A, B, cap, rfl, hM, hg, hB, hBl⟩, hb⟩
          have hBw : w.heap.size ≤ B := Nat.le_trans hS.1.b.size hB
          have hnB : ∀ x ∈ [(g14, cz), (g10, c1)], x.1 ≠ B := fun x hx => Nat.ne_of_lt (Nat.lt_of_lt_of_le (hS.1.k x hx).lt hB)
          have hn8 : g13 ≠ B := Nat.ne_of_lt (Nat.lt_of_lt_of_le hS.2.lt hB)
          have hgB : gx ≠ B := Nat.ne_of_lt (Nat.lt_of_lt_of_le hgx.lt hB)
          have hgx := hgx.below hb hgx.lt
          refine hK.out _ _ ⟨hS.1.below hb, hS.2.below hb hS.2.lt⟩ (fun hS => ?_)
          clear hK K hb hg hB
          refine wpAnyH_take (i := 9) (v := ?_) rfl (by kernel_rfl) (by kernel_rfl) (by kernel_rfl) (fun _ _ _ h => h) (Or.inl ⟨by kernel_rfl, ?_⟩) hS ?_
          rotate_left 1
          · intro w hT
            go_simp
            all_goals with_reducible rfl
          refine wpAnyH_ready (rs := [10]) (by kernel_rfl) (by simp) ?_
          refine AllReadyH.cons rfl (fun K hK => ?_) AllReadyH.nil
          have hrun := HS.out W1 hS.1.b g A B cap _ hM hBl hBw (cpuK kn v) (cpuK_ok HV.out)
          rw [RY.out] at hrun
          have HRUN := Lib.hid (show Calls Tryd.prog 15 #[.agg #[.int .u32 ((cpuK kn v).r 0), .int .u32 ((cpuK kn v).r 1), .int .u32 ((cpuK kn v).r 2), .int .u32 ((cpuK kn v).r 3), .int .u32 ((cpuK kn v).r 4), .int .u32 ((cpuK kn v).r 5), .int .u32 ((cpuK kn v).r 6), .int .u32 ((cpuK kn v).r 7), .complex .f64 0 0, .complex .f64 0 0, .int .u32 0], .iface 31 (.pointer (some ⟨g, 0, none⟩))] W1 fun e w' => e = .returned (.tuple #[.agg #[.int .u32 (cy.r 0), .int .u32 (cy.r 1), .int .u32 (cy.r 2), .int .u32 (cy.r 3), .int .u32 (cy.r 4), .int .u32 (cy.r 5), .int .u32 (cy.r 6), .int .u32 (cy.r 7), .complex .f64 (cy.z 0).1 (cy.z 0).2, .complex .f64 (cy.z 1).1 (cy.z 1).2, .int .u32 cy.pc], .int .i64 0]) ∧ RamAt w' g A B cap _ ∧ But (fun k => k = B) W1 w' from hrun)
          clear hrun
          go_simp
          refine HRUN.out.mono ?_
          rintro e W2 ⟨rfl, hm2, hb2⟩
          have hgx := hgx.but hb2 hgB
          refine hK.out _ _ ⟨hS.1.but hb2 hnB hBw, hS.2.but hb2 hn8⟩ (fun hS => ?_)
          clear hK K hm2 hb2 HRUN hM hBl hBw hnB hn8
          refine wpAnyH_take (i := 11) (v := ?_) rfl (by kernel_rfl) (by kernel_rfl) (by kernel_rfl) (fun _ _ _ h => h) (Or.inl ⟨by kernel_rfl, ?_⟩) hS ?_
          rotate_left 1
          · intro w hT
            go_simp
            all_goals with_reducible rfl
          refine wpAnyH_take (i := 12) (v := ?_) rfl (by kernel_rfl) (by kernel_rfl) (by kernel_rfl) (fun _ _ _ h => h) (Or.inl ⟨by kernel_rfl, ?_⟩) hS ?_
          rotate_left 1
          · intro w hT
            go_simp
            all_goals with_reducible rfl
          refine wpAnyH_take (i := 13) (v := ?_) rfl (by kernel_rfl) (by kernel_rfl) (by kernel_rfl) (fun _ _ _ h => h) (Or.inl ⟨by kernel_rfl, ?_⟩) hS ?_
          rotate_left 1
          · intro w hT
            go_simp
            all_goals with_reducible rfl
          refine wpAnyH_ready (rs := [15]) (by kernel_rfl) (by simp) ?_
          refine AllReadyH.cons rfl (fun K hK => ?_) AllReadyH.nil
          have r0 := (row11 hgx).1
          have r1 := (row11 hgx).2.1
          have r2 := (row11 hgx).2.2.1
          have r3 := (row11 hgx).2.2.2.1
          have r4 := (row11 hgx).2.2.2.2.1
          have r5 := (row11 hgx).2.2.2.2.2.1
          have r6 := (row11 hgx).2.2.2.2.2.2.1
          have r7 := (row11 hgx).2.2.2.2.2.2.2.1
          have r8 := (row11 hgx).2.2.2.2.2.2.2.2.1
          have r9 := (row11 hgx).2.2.2.2.2.2.2.2.2.1
          have r10 := (row11 hgx).2.2.2.2.2.2.2.2.2.2.1
          have rlt := (row11 hgx).2.2.2.2.2.2.2.2.2.2.2
          have rf0 := hgx.frozen 0
          have rf1 := hgx.frozen 1
          have rf2 := hgx.frozen 2
          have rf3 := hgx.frozen 3
          have rf4 := hgx.frozen 4
          have rf5 := hgx.frozen 5
          have rf6 := hgx.frozen 6
          have rf7 := hgx.frozen 7
          have rf8 := hgx.frozen 8
          have rf9 := hgx.frozen 9
          have rf10 := hgx.frozen 10
          have hbt := set11_but (S := fun k => k = gx) (g := gx) (But.refl _ W2) (.inl rfl) (.int .u32 (cy.r 0)) (.int .u32 (cy.r 1)) (.int .u32 (cy.r 2)) (.int .u32 (cy.r 3)) (.int .u32 (cy.r 4)) (.int .u32 (cy.r 5)) (.int .u32 (cy.r 6)) (.int .u32 (cy.r 7)) (.complex .f64 (cy.z 0).1 (cy.z 0).2) (.complex .f64 (cy.z 1).1 (cy.z 1).2) (.int .u32 cy.pc)
          have hblk := set11_blk hgx (.int .u32 (cy.r 0)) (.int .u32 (cy.r 1)) (.int .u32 (cy.r 2)) (.int .u32 (cy.r 3)) (.int .u32 (cy.r 4)) (.int .u32 (cy.r 5)) (.int .u32 (cy.r 6)) (.int .u32 (cy.r 7)) (.complex .f64 (cy.z 0).1 (cy.z 0).2) (.complex .f64 (cy.z 1).1 (cy.z 1).2) (.int .u32 cy.pc)
          go_simp
          refine hK.out _ _ ⟨hS.1.but hbt hgl hgw, hS.2.but hbt hg8⟩ (fun hS => ?_)
          clear hK K r0 r1 r2 r3 r4 r5 r6 r7 r8 r9 r10 rf0 rf1 rf2 rf3 rf4 rf5 rf6 rf7 rf8 rf9 rf10
          refine wpAnyH_take (i := 16) (v := ?_) rfl (by kernel_rfl) (by kernel_rfl) (by kernel_rfl) (fun _ _ _ h => h) (Or.inl ⟨by kernel_rfl, ?_⟩) hS ?_
          rotate_left 1
          · intro w hT
            go_simp
            all_goals with_reducible rfl
          refine wpAnyH_done (by kernel_rfl) ?_ _
          go_simp
          refine hm _ _ (Met.intro (hj _ _ ?_))
          repeat apply Exists.intro
          refine ⟨⟨rfl, gx, rfl, ⟨hS.1.b, fun x hx => ?_⟩, hS.2⟩, rfl⟩
          rcases List.mem_cons.1 hx with rfl | hx
          · exact hblk
          · exact hS.1.k x hx
      · skip
        have hgx := Blk.new Ws 28 #[.int .u32 0, .int .u32 0, .int .u32 0, .int .u32 0, .int .u32 0, .int .u32 0, .int .u32 0, .int .u32 0, .complex .f64 0 0, .complex .f64 0 0, .int .u32 0]
        have hbx := bl_new (Below.refl Ws.heap.size Ws) (.cells #[.int .u32 0, .int .u32 0, .int .u32 0, .int .u32 0, .int .u32 0, .int .u32 0, .int .u32 0, .int .u32 0, .complex .f64 0 0, .complex .f64 0 0, .int .u32 0] 28)
        have hgl : ∀ x ∈ [(g14, cz), (g10, c1)], x.1 ≠ Ws.heap.size := fun x hx => Nat.ne_of_lt (hS.1.k x hx).lt
        have hg8 : g13 ≠ Ws.heap.size := Nat.ne_of_lt hS.2.lt
        have hgw : w.heap.size ≤ Ws.heap.size := hS.1.b.size
        have hgsa := hgs.below hbx hgs.lt
        clear hgs
        go_simp
        refine hK.out _ _ ⟨hS.1.below hbx, hS.2.below hbx hS.2.lt⟩ (fun hS => ?_)
        clear hK K hbx
        generalize hwa : Ws.alloc (.cells #[.int .u32 0, .int .u32 0, .int .u32 0, .int .u32 0, .int .u32 0, .int .u32 0, .int .u32 0, .int .u32 0, .complex .f64 0 0, .complex .f64 0 0, .int .u32 0] 28) = Wa at *
        generalize Ws.heap.size = gx at *
        refine wpAnyH_ready (rs := [5]) (by kernel_rfl) (by simp) ?_
        refine AllReadyH.cons rfl (fun K hK => ?_) AllReadyH.nil
        have hcs := (hgsa.cell kn).trans (str6 hk6 HDG.out)
        have hcl := hgsa.lt
        go_simp
        refine hK.out _ _ hS (fun hS => ?_)
        clear hK K hcs
        refine wpAnyH_take (i := 6) (v := ?_) rfl (by kernel_rfl) (by kernel_rfl) (by kernel_rfl) (fun _ _ _ h => h) (Or.inl ⟨by kernel_rfl, ?_⟩) hS ?_
        rotate_left 1
        · intro w hT
          go_simp
          all_goals with_reducible rfl
        refine wpAnyH_take (i := 7) (v := ?_) rfl (by kernel_rfl) (by kernel_rfl) (by kernel_rfl) (fun _ _ _ h => h) (Or.inl ⟨by kernel_rfl, ?_⟩) hS ?_
        rotate_left 1
        · intro w hT
          go_simp
          all_goals with_reducible rfl
        refine wpAnyH_ready (rs := [8]) (by kernel_rfl) (by simp) ?_
        refine AllReadyH.cons rfl (fun K hK => ?_) AllReadyH.nil
        go_simp
        refine (HJN.out _ hS.1.b).mono ?_
        rintro e W1 ⟨⟨g, A, B, cap, rfl, hM, hg, hB, hBl⟩, hb⟩
        have hBw : w.heap.size ≤ B := Nat.le_trans hS.1.b.size hB
        have hnB : ∀ x ∈ [(g14, cz), (g10, c1)], x.1 ≠ B := fun x hx => Nat.ne_of_lt (Nat.lt_of_lt_of_le (hS.1.k x hx).lt hB)
        have hn8 : g13 ≠ B := Nat.ne_of_lt (Nat.lt_of_lt_of_le hS.2.lt hB)
        have hgB : gx ≠ B := Nat.ne_of_lt (Nat.lt_of_lt_of_le hgx.lt hB)
        have hgx := hgx.below hb hgx.lt
        refine hK.out _ _ ⟨hS.1.below hb, hS.2.below hb hS.2.lt⟩ (fun hS => ?_)
        clear hK K hb hg hB
        refine wpAnyH_take (i := 9) (v := ?_) rfl (by kernel_rfl) (by kernel_rfl) (by kernel_rfl) (fun _ _ _ h => h) (Or.inl ⟨by kernel_rfl, ?_⟩) hS ?_
        rotate_left 1
        · intro w hT
          go_simp
          all_goals with_reducible rfl
        refine wpAnyH_ready (rs := [10]) (by kernel_rfl) (by simp) ?_
        refine AllReadyH.cons rfl (fun K hK => ?_) AllReadyH.nil
        have hrun := HS.out W1 hS.1.b g A B cap _ hM hBl hBw (cpuK kn v) (cpuK_ok HV.out)
        rw [RY.out] at hrun
        have HRUN := Lib.hid (show Calls Tryd.prog 15 #[.agg #[.int .u32 ((cpuK kn v).r 0), .int .u32 ((cpuK kn v).r 1), .int .u32 ((cpuK kn v).r 2), .int .u32 ((cpuK kn v).r 3), .int .u32 ((cpuK kn v).r 4), .int .u32 ((cpuK kn v).r 5), .int .u32 ((cpuK kn v).r 6), .int .u32 ((cpuK kn v).r 7), .complex .f64 0 0, .complex .f64 0 0, .int .u32 0], .iface 31 (.pointer (some ⟨g, 0, none⟩))] W1 fun e w' => e = .returned (.tuple #[.agg #[.int .u32 (cy.r 0), .int .u32 (cy.r 1), .int .u32 (cy.r 2), .int .u32 (cy.r 3), .int .u32 (cy.r 4), .int .u32 (cy.r 5), .int .u32 (cy.r 6), .int .u32 (cy.r 7), .complex .f64 (cy.z 0).1 (cy.z 0).2, .complex .f64 (cy.z 1).1 (cy.z 1).2, .int .u32 cy.pc], .int .i64 0]) ∧ RamAt w' g A B cap _ ∧ But (fun k => k = B) W1 w' from hrun)
        clear hrun
        go_simp
        refine HRUN.out.mono ?_
        rintro e W2 ⟨rfl, hm2, hb2⟩
        have hgx := hgx.but hb2 hgB
        refine hK.out _ _ ⟨hS.1.but hb2 hnB hBw, hS.2.but hb2 hn8⟩ (fun hS => ?_)
        clear hK K hm2 hb2 HRUN hM hBl hBw hnB hn8
        refine wpAnyH_take (i := 11) (v := ?_) rfl (by kernel_rfl) (by kernel_rfl) (by kernel_rfl) (fun _ _ _ h => h) (Or.inl ⟨by kernel_rfl, ?_⟩) hS ?_
        rotate_left 1
        · intro w hT
          go_simp
          all_goals with_reducible rfl
        refine wpAnyH_take (i := 12) (v := ?_) rfl (by kernel_rfl) (by kernel_rfl) (by kernel_rfl) (fun _ _ _ h => h) (Or.inl ⟨by kernel_rfl, ?_⟩) hS ?_
        rotate_left 1
        · intro w hT
          go_simp
          all_goals with_reducible rfl
        refine wpAnyH_take (i := 13) (v := ?_) rfl (by kernel_rfl) (by kernel_rfl) (by kernel_rfl) (fun _ _ _ h => h) (Or.inl ⟨by kernel_rfl, ?_⟩) hS ?_
        rotate_left 1
        · intro w hT
          go_simp
          all_goals with_reducible rfl
        refine wpAnyH_ready (rs := [15]) (by kernel_rfl) (by simp) ?_
        refine AllReadyH.cons rfl (fun K hK => ?_) AllReadyH.nil
        have r0 := (row11 hgx).1
        have r1 := (row11 hgx).2.1
        have r2 := (row11 hgx).2.2.1
        have r3 := (row11 hgx).2.2.2.1
        have r4 := (row11 hgx).2.2.2.2.1
        have r5 := (row11 hgx).2.2.2.2.2.1
        have r6 := (row11 hgx).2.2.2.2.2.2.1
        have r7 := (row11 hgx).2.2.2.2.2.2.2.1
        have r8 := (row11 hgx).2.2.2.2.2.2.2.2.1
        have r9 := (row11 hgx).2.2.2.2.2.2.2.2.2.1
        have r10 := (row11 hgx).2.2.2.2.2.2.2.2.2.2.1
        have rlt := (row11 hgx).2.2.2.2.2.2.2.2.2.2.2
        have rf0 := hgx.frozen 0
        have rf1 := hgx.frozen 1
        have rf2 := hgx.frozen 2
        have rf3 := hgx.frozen 3
        have rf4 := hgx.frozen 4
        have rf5 := hgx.frozen 5
        have rf6 := hgx.frozen 6
        have rf7 := hgx.frozen 7
        have rf8 := hgx.frozen 8
        have rf9 := hgx.frozen 9
        have rf10 := hgx.frozen 10
        have hbt := set11_but (S := fun k => k = gx) (g := gx) (But.refl _ W2) (.inl rfl) (.int .u32 (cy.r 0)) (.int .u32 (cy.r 1)) (.int .u32 (cy.r 2)) (.int .u32 (cy.r 3)) (.int .u32 (cy.r 4)) (.int .u32 (cy.r 5)) (.int .u32 (cy.r 6)) (.int .u32 (cy.r 7)) (.complex .f64 (cy.z 0).1 (cy.z 0).2) (.complex .f64 (cy.z 1).1 (cy.z 1).2) (.int .u32 cy.pc)
        have hblk := set11_blk hgx (.int .u32 (cy.r 0)) (.int .u32 (cy.r 1)) (.int .u32 (cy.r 2)) (.int .u32 (cy.r 3)) (.int .u32 (cy.r 4)) (.int .u32 (cy.r 5)) (.int .u32 (cy.r 6)) (.int .u32 (cy.r 7)) (.complex .f64 (cy.z 0).1 (cy.z 0).2) (.complex .f64 (cy.z 1).1 (cy.z 1).2) (.int .u32 cy.pc)
        go_simp
        refine hK.out _ _ ⟨hS.1.but hbt hgl hgw, hS.2.but hbt hg8⟩ (fun hS => ?_)
        clear hK K r0 r1 r2 r3 r4 r5 r6 r7 r8 r9 r10 rf0 rf1 rf2 rf3 rf4 rf5 rf6 rf7 rf8 rf9 rf10
        refine wpAnyH_take (i := 16) (v := ?_) rfl (by kernel_rfl) (by kernel_rfl) (by kernel_rfl) (fun _ _ _ h => h) (Or.inl ⟨by kernel_rfl, ?_⟩) hS ?_
        rotate_left 1
        · intro w hT
          go_simp
          all_goals with_reducible rfl
        refine wpAnyH_done (by kernel_rfl) ?_ _
        go_simp
        refine hm _ _ (Met.intro (hj _ _ ?_))
        repeat apply Exists.intro
        refine ⟨⟨rfl, gx, rfl, ⟨hS.1.b, fun x hx => ?_⟩, hS.2⟩, rfl⟩
        rcases List.mem_cons.1 hx with rfl | hx
        · exact hblk
        · exact hS.1.k x hx
    · skip
      have hgx := Blk.new Wd 28 #[.int .u32 0, .int .u32 0, .int .u32 0, .int .u32 0, .int .u32 0, .int .u32 0, .int .u32 0, .int .u32 0, .complex .f64 0 0, .complex .f64 0 0, .int .u32 0]
      have hbx := bl_new (Below.refl Wd.heap.size Wd) (.cells #[.int .u32 0, .int .u32 0, .int .u32 0, .int .u32 0, .int .u32 0, .int .u32 0, .int .u32 0, .int .u32 0, .complex .f64 0 0, .complex .f64 0 0, .int .u32 0] 28)
      have hgl : ∀ x ∈ [(g14, cz), (g10, c1)], x.1 ≠ Wd.heap.size := fun x hx => Nat.ne_of_lt (hS.1.k x hx).lt
      have hg8 : g13 ≠ Wd.heap.size := Nat.ne_of_lt hS.2.lt
      have hgw : w.heap.size ≤ Wd.heap.size := hS.1.b.size
      go_simp
      refine hK.out _ _ ⟨hS.1.below hbx, hS.2.below hbx hS.2.lt⟩ (fun hS => ?_)
      clear hK K hbx
      generalize hwa : Wd.alloc (.cells #[.int .u32 0, .int .u32 0, .int .u32 0, .int .u32 0, .int .u32 0, .int .u32 0, .int .u32 0, .int .u32 0, .complex .f64 0 0, .complex .f64 0 0, .int .u32 0] 28) = Wa at *
      generalize Wd.heap.size = gx at *
      refine wpAnyH_ready (rs := [2]) (by kernel_rfl) (by simp) ?_
      refine AllReadyH.cons rfl (fun K hK => ?_) AllReadyH.nil
      have hgs := Blk.new Wa 9 #[.string ⟨#[48]⟩, .string ⟨#[49]⟩, .string ⟨#[50]⟩, .string ⟨#[51]⟩, .string ⟨#[52]⟩, .string ⟨#[53]⟩]
      have hbs := bl_new (Below.refl Wa.heap.size Wa) (.cells #[.string ⟨#[48]⟩, .string ⟨#[49]⟩, .string ⟨#[50]⟩, .string ⟨#[51]⟩, .string ⟨#[52]⟩, .string ⟨#[53]⟩] 9)
      have hgxa := hgx.below hbs hgx.lt
      clear hgx
      have hgx := hgxa
      clear hgxa
      go_simp
      refine hK.out _ _ ⟨hS.1.below hbs, hS.2.below hbs hS.2.lt⟩ (fun hS => ?_)
      clear hK K hbs
      generalize hws : Wa.alloc (.cells #[.string ⟨#[48]⟩, .string ⟨#[49]⟩, .string ⟨#[50]⟩, .string ⟨#[51]⟩, .string ⟨#[52]⟩, .string ⟨#[53]⟩] 9) = Ws at *
      generalize Wa.heap.size = gs at *
      refine wpAnyH_take (i := 4) (v := ?_) rfl (by kernel_rfl) (by kernel_rfl) (by kernel_rfl) (fun _ _ _ h => h) (Or.inl ⟨by kernel_rfl, ?_⟩) hS ?_
      rotate_left 1
      · intro w hT
        go_simp
        all_goals with_reducible rfl
      refine wpAnyH_ready (rs := [5]) (by kernel_rfl) (by simp) ?_
      refine AllReadyH.cons rfl (fun K hK => ?_) AllReadyH.nil
      have hcs := (hgs.cell kn).trans (str6 hk6 HDG.out)
      have hcl := hgs.lt
      go_simp
      refine hK.out _ _ hS (fun hS => ?_)
      clear hK K hcs
      refine wpAnyH_take (i := 6) (v := ?_) rfl (by kernel_rfl) (by kernel_rfl) (by kernel_rfl) (fun _ _ _ h => h) (Or.inl ⟨by kernel_rfl, ?_⟩) hS ?_
      rotate_left 1
      · intro w hT
        go_simp
        all_goals with_reducible rfl
      refine wpAnyH_take (i := 7) (v := ?_) rfl (by kernel_rfl) (by kernel_rfl) (by kernel_rfl) (fun _ _ _ h => h) (Or.inl ⟨by kernel_rfl, ?_⟩) hS ?_
      rotate_left 1
      · intro w hT
        go_simp
        all_goals with_reducible rfl
      refine wpAnyH_ready (rs := [8]) (by kernel_rfl) (by simp) ?_
      refine AllReadyH.cons rfl (fun K hK => ?_) AllReadyH.nil
      go_simp
      refine (HJN.out _ hS.1.b).mono ?_
      rintro e W1 ⟨⟨g, A, B, cap, rfl, hM, hg, hB, hBl⟩, hb⟩
      have hBw : w.heap.size ≤ B := Nat.le_trans hS.1.b.size hB
      have hnB : ∀ x ∈ [(g14, cz), (g10, c1)], x.1 ≠ B := fun x hx => Nat.ne_of_lt (Nat.lt_of_lt_of_le (hS.1.k x hx).lt hB)
      have hn8 : g13 ≠ B := Nat.ne_of_lt (Nat.lt_of_lt_of_le hS.2.lt hB)
      have hgB : gx ≠ B := Nat.ne_of_lt (Nat.lt_of_lt_of_le hgx.lt hB)
      have hgx := hgx.below hb hgx.lt
      refine hK.out _ _ ⟨hS.1.below hb, hS.2.below hb hS.2.lt⟩ (fun hS => ?_)
      clear hK K hb hg hB
      refine wpAnyH_take (i := 9) (v := ?_) rfl (by kernel_rfl) (by kernel_rfl) (by kernel_rfl) (fun _ _ _ h => h) (Or.inl ⟨by kernel_rfl, ?_⟩) hS ?_
      rotate_left 1
      · intro w hT
        go_simp
        all_goals with_reducible rfl
      refine wpAnyH_ready (rs := [10]) (by kernel_rfl) (by simp) ?_
      refine AllReadyH.cons rfl (fun K hK => ?_) AllReadyH.nil
      have hrun := HS.out W1 hS.1.b g A B cap _ hM hBl hBw (cpuK kn v) (cpuK_ok HV.out)
      rw [RY.out] at hrun
      have HRUN := Lib.hid (show Calls Tryd.prog 15 #[.agg #[.int .u32 ((cpuK kn v).r 0), .int .u32 ((cpuK kn v).r 1), .int .u32 ((cpuK kn v).r 2), .int .u32 ((cpuK kn v).r 3), .int .u32 ((cpuK kn v).r 4), .int .u32 ((cpuK kn v).r 5), .int .u32 ((cpuK kn v).r 6), .int .u32 ((cpuK kn v).r 7), .complex .f64 0 0, .complex .f64 0 0, .int .u32 0], .iface 31 (.pointer (some ⟨g, 0, none⟩))] W1 fun e w' => e = .returned (.tuple #[.agg #[.int .u32 (cy.r 0), .int .u32 (cy.r 1), .int .u32 (cy.r 2), .int .u32 (cy.r 3), .int .u32 (cy.r 4), .int .u32 (cy.r 5), .int .u32 (cy.r 6), .int .u32 (cy.r 7), .complex .f64 (cy.z 0).1 (cy.z 0).2, .complex .f64 (cy.z 1).1 (cy.z 1).2, .int .u32 cy.pc], .int .i64 0]) ∧ RamAt w' g A B cap _ ∧ But (fun k => k = B) W1 w' from hrun)
      clear hrun
      go_simp
      refine HRUN.out.mono ?_
      rintro e W2 ⟨rfl, hm2, hb2⟩
      have hgx := hgx.but hb2 hgB
      refine hK.out _ _ ⟨hS.1.but hb2 hnB hBw, hS.2.but hb2 hn8⟩ (fun hS => ?_)
      clear hK K hm2 hb2 HRUN hM hBl hBw hnB hn8
      refine wpAnyH_take (i := 11) (v := ?_) rfl (by kernel_rfl) (by kernel_rfl) (by kernel_rfl) (fun _ _ _ h => h) (Or.inl ⟨by kernel_rfl, ?_⟩) hS ?_
      rotate_left 1
      · intro w hT
        go_simp
        all_goals with_reducible rfl
      refine wpAnyH_take (i := 12) (v := ?_) rfl (by kernel_rfl) (by kernel_rfl) (by kernel_rfl) (fun _ _ _ h => h) (Or.inl ⟨by kernel_rfl, ?_⟩) hS ?_
      rotate_left 1
      · intro w hT
        go_simp
        all_goals with_reducible rfl
      refine wpAnyH_take (i := 13) (v := ?_) rfl (by kernel_rfl) (by kernel_rfl) (by kernel_rfl) (fun _ _ _ h => h) (Or.inl ⟨by kernel_rfl, ?_⟩) hS ?_
      rotate_left 1
      · intro w hT
        go_simp
        all_goals with_reducible rfl
      refine wpAnyH_ready (rs := [15]) (by kernel_rfl) (by simp) ?_
      refine AllReadyH.cons rfl (fun K hK => ?_) AllReadyH.nil
      have r0 := (row11 hgx).1
      have r1 := (row11 hgx).2.1
      have r2 := (row11 hgx).2.2.1
      have r3 := (row11 hgx).2.2.2.1
      have r4 := (row11 hgx).2.2.2.2.1
      have r5 := (row11 hgx).2.2.2.2.2.1
      have r6 := (row11 hgx).2.2.2.2.2.2.1
      have r7 := (row11 hgx).2.2.2.2.2.2.2.1
      have r8 := (row11 hgx).2.2.2.2.2.2.2.2.1
      have r9 := (row11 hgx).2.2.2.2.2.2.2.2.2.1
      have r10 := (row11 hgx).2.2.2.2.2.2.2.2.2.2.1
      have rlt := (row11 hgx).2.2.2.2.2.2.2.2.2.2.2
      have rf0 := hgx.frozen 0
      have rf1 := hgx.frozen 1
      have rf2 := hgx.frozen 2
      have rf3 := hgx.frozen 3
      have rf4 := hgx.frozen 4
      have rf5 := hgx.frozen 5
      have rf6 := hgx.frozen 6
      have rf7 := hgx.frozen 7
      have rf8 := hgx.frozen 8
      have rf9 := hgx.frozen 9
      have rf10 := hgx.frozen 10
      have hbt := set11_but (S := fun k => k = gx) (g := gx) (But.refl _ W2) (.inl rfl) (.int .u32 (cy.r 0)) (.int .u32 (cy.r 1)) (.int .u32 (cy.r 2)) (.int .u32 (cy.r 3)) (.int .u32 (cy.r 4)) (.int .u32 (cy.r 5)) (.int .u32 (cy.r 6)) (.int .u32 (cy.r 7)) (.complex .f64 (cy.z 0).1 (cy.z 0).2) (.complex .f64 (cy.z 1).1 (cy.z 1).2) (.int .u32 cy.pc)
      have hblk := set11_blk hgx (.int .u32 (cy.r 0)) (.int .u32 (cy.r 1)) (.int .u32 (cy.r 2)) (.int .u32 (cy.r 3)) (.int .u32 (cy.r 4)) (.int .u32 (cy.r 5)) (.int .u32 (cy.r 6)) (.int .u32 (cy.r 7)) (.complex .f64 (cy.z 0).1 (cy.z 0).2) (.complex .f64 (cy.z 1).1 (cy.z 1).2) (.int .u32 cy.pc)
      go_simp
      refine hK.out _ _ ⟨hS.1.but hbt hgl hgw, hS.2.but hbt hg8⟩ (fun hS => ?_)
      clear hK K r0 r1 r2 r3 r4 r5 r6 r7 r8 r9 r10 rf0 rf1 rf2 rf3 rf4 rf5 rf6 rf7 rf8 rf9 rf10
      refine wpAnyH_take (i := 16) (v := ?_) rfl (by kernel_rfl) (by kernel_rfl) (by kernel_rfl) (fun _ _ _ h => h) (Or.inl ⟨by kernel_rfl, ?_⟩) hS ?_
      rotate_left 1
      · intro w hT
        go_simp
        all_goals with_reducible rfl
      refine wpAnyH_done (by kernel_rfl) ?_ _
      go_simp
      refine hm _ _ (Met.intro (hj _ _ ?_))
      repeat apply Exists.intro
      refine ⟨⟨rfl, gx, rfl, ⟨hS.1.b, fun x hx => ?_⟩, hS.2⟩, rfl⟩
      rcases List.mem_cons.1 hx with rfl | hx
      · exact hblk
      · exact hS.1.k x hx
  case rest =>
  obtain ⟨rfl, g16, rfl, hkb, h13⟩ := hcut
  have H9 := Lib.hid (ram9 (HGR.out _ hkb.b))
  go_wp2_with (fail)
  refine H9.out.mono ?_
  rintro e W9 ⟨g18, v9, rfl, hR, hO, hg18, hr18, hb9⟩
  have hkbC := hkb
  have h13C := h13
  clear hkb h13
  clear H9
  have hne9 : memOf p9 ≠ [] := by decide +kernel
  have hl9 : (memOf p9).length ≤ 100000 := by decide +kernel
  obtain ⟨m9, hm9⟩ : ∃ m, memOf p9 = m := ⟨_, rfl⟩
  rw [hm9] at hO hne9 hl9
  have HM9 := Lib.hid hm9
  clear hm9
  have f9 := hR.frozen 0
  have c9 := hR.cell 0
  have l9 := hR.lt
  simp only [List.getElem?_toArray, List.getElem?_cons_zero] at c9
  have hb9s := hb9.size
  go_upto_region 10 with (fail)
  go_upto_region 11 with (at_builtin; refine wpList_append_noughts rfl _ _ rfl rfl hO hne9 100 (by decide) (by decide) rfl hl9 hb9s ?_; intro v10 W10 hO10 hgr10; obtain ⟨A10, B10, cp10, rfl, hrow10, hB10, hBl10, hcp10⟩ := rowB_of hO10 (List.append_ne_nil_of_left_ne_nil hne9 _); have hR10 := hR.grown hgr10 (fun e => absurd (hr18 _ e.symm) (Nat.lt_irrefl _)); have f10 := hR10.frozen 0; have c10 := hR10.cell 0; have l10 := hR10.lt; simp only [List.getElem?_toArray, List.getElem?_cons_zero] at c10)
  have hne10 : m9 ++ List.replicate 100 0 ≠ [] := List.append_ne_nil_of_left_ne_nil hne9 _
  have hMC : m9 ++ List.replicate 100 0 = memC := by rw [← HM9.out]; rfl
  have hbX := below_store (below_own hO hne9 hb9 hgr10) hg18 (.slice A10 (m9 ++ List.replicate 100 0).length cp10)
  have hM := ram_store hR10 hrow10 hne10 hcp10 (by rw [hMC]; exact memC_low) (by rw [hMC, memC_len]; decide)
  have hBX : w.heap.size ≤ B10 := Nat.le_trans hkbC.b.size hB10
  have hBlX := hBl10
  rw [show W10.heap.size = (W10.setCell ⟨g18, 0, none⟩ (.slice A10 (m9 ++ List.replicate 100 0).length cp10)).heap.size from by simp] at hBlX
  have hkb := hkbC.below hbX
  have h13 := h13C.below hbX h13C.lt
  rw [show (m9 ++ List.replicate 100 (0 : Int)).length = m9.length + 100 from by simp] at hM hkb h13 hBlX hbX
  generalize W10.setCell ⟨g18, 0, none⟩ (.slice A10 (m9.length + 100) cp10) = WX at *
  rw [hMC] at hM
  have HNB9 := Lib.hid (show ∀ x ∈ [(g16, cy), (g14, cz), (g10, c1)], x.1 ≠ B10 from fun x hx => Nat.ne_of_lt (Nat.lt_of_lt_of_le (hkbC.k x hx).lt hB10))
  clear hR10 hrow10 hgr10 hO10 hO hR hb9 hbX hMC hne10 hne9 hl9 f9 c9 l9 f10 c10 l10 hB10 hBl10 hcp10 hkbC h13C hb9s HM9
  obtain ⟨q, hq⟩ : ∃ q : Nat, t.tmod 20 = (q : Int) := ⟨(t.tmod 20).toNat, by rw [Int.tmod_eq_emod_of_nonneg ht.1]; omega⟩
  have hq20 : q < 20 := by rw [Int.tmod_eq_emod_of_nonneg ht.1] at hq; omega
  have hqi : (q : Int) < 20 := by omega
  obtain ⟨cd, md, rd1, rd2, rd3⟩ := calls3 HV.out hq20
  have RD2 := Lib.hid rd2
  have RD3 := Lib.hid rd3
  have HRN := Lib.hid (HR.out WX hkb.b g18 A10 B10 cp10 memC hM hBlX hBX)
  have RD1 := Lib.hid rd1
  clear rd1 rd2 rd3 hM
  have hrun9 := HRN.out (cpuVQ v (16 + 4 * q)) (cpuVQ_ok HV.out ⟨by omega, by omega⟩) 9 (by decide)
  rw [show ((9 : Int)).toNat = 9 from rfl, RD1.out] at hrun9
  have HRUN9 := Lib.hid (show Calls Tryd.prog 9 #[.agg #[.int .u32 0, .int .u32 v, .int .u32 (16 + 4 * (q : Int)), .int .u32 0, .int .u32 0, .int .u32 0, .int .u32 0, .int .u32 0, .complex .f64 0 0, .complex .f64 0 0, .int .u32 0], .iface 31 (.pointer (some ⟨g18, 0, none⟩)), .int .i64 9] WX fun e w' => e = .returned (.tuple #[.agg #[.int .u32 (cd.r 0), .int .u32 (cd.r 1), .int .u32 (cd.r 2), .int .u32 (cd.r 3), .int .u32 (cd.r 4), .int .u32 (cd.r 5), .int .u32 (cd.r 6), .int .u32 (cd.r 7), .complex .f64 (cd.z 0).1 (cd.z 0).2, .complex .f64 (cd.z 1).1 (cd.z 1).2, .int .u32 cd.pc], .int .i64 3, .int .i64 1]) ∧ RamAt w' g18 A10 B10 cp10 md ∧ But (fun k => k = B10) WX w' from hrun9)
  clear hrun9
  go_wp2_with (fail)
  refine HRUN9.out.mono ?_
  rintro e WY ⟨rfl, hmY, hbY⟩
  have k16 := (hkb.k (g16, cy) (by simp)).but hbY (HNB9.out _ (by simp))
  have k14 := (hkb.k (g14, cz) (by simp)).but hbY (HNB9.out _ (by simp))
  have k10 := (hkb.k (g10, c1) (by simp)).but hbY (HNB9.out _ (by simp))
  have hBY := hkb.b.trans (hbY.below (B := w.heap.size) (fun k hk => by have : k = B10 := hk; omega) hkb.b.size)
  have hBZ := bl_new hBY (.cells #[.int .u32 (cd.r 0), .int .u32 (cd.r 1), .int .u32 (cd.r 2), .int .u32 (cd.r 3), .int .u32 (cd.r 4), .int .u32 (cd.r 5), .int .u32 (cd.r 6), .int .u32 (cd.r 7), .complex .f64 (cd.z 0).1 (cd.z 0).2, .complex .f64 (cd.z 1).1 (cd.z 1).2, .int .u32 cd.pc] 28)
  have hb19 := bl_new (Below.refl WY.heap.size WY) (.cells #[.int .u32 (cd.r 0), .int .u32 (cd.r 1), .int .u32 (cd.r 2), .int .u32 (cd.r 3), .int .u32 (cd.r 4), .int .u32 (cd.r 5), .int .u32 (cd.r 6), .int .u32 (cd.r 7), .complex .f64 (cd.z 0).1 (cd.z 0).2, .complex .f64 (cd.z 1).1 (cd.z 1).2, .int .u32 cd.pc] 28)
  have k19 := Blk.new WY 28 #[.int .u32 (cd.r 0), .int .u32 (cd.r 1), .int .u32 (cd.r 2), .int .u32 (cd.r 3), .int .u32 (cd.r 4), .int .u32 (cd.r 5), .int .u32 (cd.r 6), .int .u32 (cd.r 7), .complex .f64 (cd.z 0).1 (cd.z 0).2, .complex .f64 (cd.z 1).1 (cd.z 1).2, .int .u32 cd.pc]
  have K16 := Lib.hid (k16.below hb19 k16.lt)
  have K14 := Lib.hid (k14.below hb19 k14.lt)
  have K10 := Lib.hid (k10.below hb19 k10.lt)
  have K19 := Lib.hid k19
  have HBZ := Lib.hid hBZ
  clear k16 k14 k10 k19 hBY hBZ hb19 hbY hmY hkb h13 HRN HRUN9 RD1 HJZ HJN HA HR HS H6 HGR RA RY RZ hBX hBlX
  go_upto_region 12 with (fail)
  generalize WY.alloc (.cells #[.int .u32 (cd.r 0), .int .u32 (cd.r 1), .int .u32 (cd.r 2), .int .u32 (cd.r 3), .int .u32 (cd.r 4), .int .u32 (cd.r 5), .int .u32 (cd.r 6), .int .u32 (cd.r 7), .complex .f64 (cd.z 0).1 (cd.z 0).2, .complex .f64 (cd.z 1).1 (cd.z 1).2, .int .u32 cd.pc] 28) = WZ at *
  generalize WY.heap.size = g19 at *
  have q10 := cp_pc K10.out
  have q107 := cp_reg K10.out (k := 7) (by decide)
  have q14 := cp_pc K14.out
  have q16 := cp_pc K16.out
  have q193 := K19.out.cell 3
  have q194 := K19.out.cell 4
  simp only [List.getElem?_toArray, List.getElem?_cons_zero, List.getElem?_cons_succ] at q193 q194
  rw [RB.out] at q10
  rw [RC.out] at q107
  rw [PZ.out] at q14
  rw [PY.out] at q16
  rw [RD2.out] at q193
  rw [RD3.out] at q194
  have l10 := K10.out.lt
  have l14 := K14.out.lt
  have l16 := K16.out.lt
  have l19 := K19.out.lt
  have hv0 := HV.out.1
  have hv1 := HV.out.2
  by_cases hvz : v = 0
  · subst hvz
    rw [if_pos rfl] at q14 q16
    go_wp2
    go_ret
    exact ⟨rfl, HBZ.out⟩
  · rw [if_neg hvz] at q14 q16
    have e1 : (v == 0) = false := by simpa using hvz
    have e2 : (v != 0) = true := by simpa using hvz
    have HVZ := Lib.hid hvz
    clear hvz
    go_wp2
    go_ret
    exact ⟨rfl, HBZ.out⟩
end Go.Proofs.YtoglmemmdolbmaaDoor
