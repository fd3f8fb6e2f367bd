/-
  The law CoreRuns, walked. Condition: the tables lie as the program's text lays them; the start's parts are words; the bytes can be read.
-/
import Derived.Test.YtoglmemmdolbmaaDoorCs3
namespace Go.Proofs.YtoglmemmdolbmaaDoor
open Go.RowKit Go.Shelf
set_option linter.unusedVariables false
set_option linter.unusedSimpArgs false
attribute [local go_sem] Oper.semAt_some
attribute [local go_sem] run_store_complex
attribute [local irreducible] floatOfInt wz


set_option maxRecDepth 100000 in
set_option maxHeartbeats 16000000 in
theorem runsLaw_any {w : World} (hG : I.Laid w) (r : Nat → Int) (a b c d pc : Int) (hs : StartOk r pc) (Aa : Option Addr) (ca : Nat) (ma : List Int) (hA : B.BytesAt w Aa ma) (ha : ∀ x ∈ ma, 0 ≤ x ∧ x ≤ 255) (hla : ma.length ≤ maxLen) (most a4 v : Int) (hmost0 : -9223372036854775808 ≤ most ∧ most ≤ 9223372036854775807) (hat : 0 ≤ a4 ∧ a4 ≤ 4294967295) (hv : 0 ≤ v ∧ v ≤ 4294967295) :
    Calls Tryd.prog 5 #[.agg (startArr r a b c d pc), .slice Aa ma.length ca, .int .i64 most, .int .u32 a4, .int .u32 v] w fun e w' => e = .returned (.bool true) ∧ Below w.heap.size w w' := by
  have hmost := hmost0.2
  clear hmost0
  have HCPU := Lib.hid (fun W => cpu_any (w := W) r a b c d pc)
  have HG := Lib.hid hG
  have HOK := Lib.hid (cpuS_ok hs a b c d)
  have HBA := Lib.hid hA
  have HLA := Lib.hid ha
  obtain ⟨cc, hcc⟩ : ∃ cc, cc = cpuS r a b c d pc := ⟨_, rfl⟩
  rw [← hcc] at HCPU HOK
  have hX := Blk.new w 42 (startArr r a b c d pc)
  have HB0 := Lib.hid (bl_new (Below.refl w.heap.size w) (.cells (startArr r a b c d pc) 42))
  have hla' : (ma.length : Int) ≤ 9223372036854775807 := by unfold maxLen at hla; omega
  clear hG hs hA ha hla hcc
  by_cases h1 : (2000 : Int) < (ma.length : Int)
  · go_enter Tryd.func5, Tryd.ntmps5
    go_wp2
    go_ret
    exact ⟨rfl, HB0.out⟩
  by_cases h2 : (200 : Int) < most
  · go_enter Tryd.func5, Tryd.ntmps5
    go_wp2
    go_ret
    exact ⟨rfl, HB0.out⟩
  have s0 := hX.cell 0
  have s1 := hX.cell 1
  have s2 := hX.cell 2
  have s3 := hX.cell 3
  have s4 := hX.cell 4
  have s5 := hX.cell 5
  have s6 := hX.cell 6
  have s7 := hX.cell 7
  have s8 := hX.cell 8
  have s9 := hX.cell 9
  have s10 := hX.cell 10
  have s11 := hX.cell 11
  have s12 := hX.cell 12
  have slt := hX.lt
  clear hX
  unfold startArr at *
  simp only [List.getElem?_toArray, List.getElem?_cons_zero, List.getElem?_cons_succ] at s0 s1 s2 s3 s4 s5 s6 s7 s8 s9 s10 s11 s12
  go_enter Tryd.func5, Tryd.ntmps5
  go_wp2_with (fail)
  refine (HCPU.out _).mono ?_
  rintro e W2 ⟨he, hb2⟩
  dsimp only [Cp.arr] at he
  subst he
  have HB2 := Lib.hid (bl_step HB0.out hb2)
  clear s0 s1 s2 s3 s4 s5 s6 s7 s8 s9 s10 s11 s12 slt hb2 HB0
  go_upto_region 4 with (fail)
  have HC3 := Lib.hid (show CpAt (W2.alloc (.cells #[.int .u32 (cc.r 0), .int .u32 (cc.r 1), .int .u32 (cc.r 2), .int .u32 (cc.r 3), .int .u32 (cc.r 4), .int .u32 (cc.r 5), .int .u32 (cc.r 6), .int .u32 (cc.r 7), .complex .f64 (cc.z 0).1 (cc.z 0).2, .complex .f64 (cc.z 1).1 (cc.z 1).2, .int .u32 cc.pc] 28)) W2.heap.size cc from Blk.new W2 28 cc.arr)
  have HB3 := Lib.hid (bl_new HB2.out (.cells #[.int .u32 (cc.r 0), .int .u32 (cc.r 1), .int .u32 (cc.r 2), .int .u32 (cc.r 3), .int .u32 (cc.r 4), .int .u32 (cc.r 5), .int .u32 (cc.r 6), .int .u32 (cc.r 7), .complex .f64 (cc.z 0).1 (cc.z 0).2, .complex .f64 (cc.z 1).1 (cc.z 1).2, .int .u32 cc.pc] 28))
  have HGC := Lib.hid (show w.heap.size ≤ W2.heap.size from HB2.out.size)
  clear HB2
  generalize W2.alloc (.cells #[.int .u32 (cc.r 0), .int .u32 (cc.r 1), .int .u32 (cc.r 2), .int .u32 (cc.r 3), .int .u32 (cc.r 4), .int .u32 (cc.r 5), .int .u32 (cc.r 6), .int .u32 (cc.r 7), .complex .f64 (cc.z 0).1 (cc.z 0).2, .complex .f64 (cc.z 1).1 (cc.z 1).2, .int .u32 cc.pc] 28) = W3 at *
  generalize W2.heap.size = gc at *
  obtain ⟨x0, x1, x2, x3, x4, x5, x6, x7, x8, x9, x10, xlt⟩ := cp_all HC3.out
  go_upto_region 5 with (fail)
  clear x0 x1 x2 x3 x4 x5 x6 x7 x8 x9 x10 xlt
  have HD4 := Lib.hid (show CpAt (W3.alloc (.cells #[.int .u32 (cc.r 0), .int .u32 (cc.r 1), .int .u32 (cc.r 2), .int .u32 (cc.r 3), .int .u32 (cc.r 4), .int .u32 (cc.r 5), .int .u32 (cc.r 6), .int .u32 (cc.r 7), .complex .f64 (cc.z 0).1 (cc.z 0).2, .complex .f64 (cc.z 1).1 (cc.z 1).2, .int .u32 cc.pc] 28)) W3.heap.size cc from Blk.new W3 28 cc.arr)
  have HC4 := Lib.hid (show CpAt (W3.alloc (.cells #[.int .u32 (cc.r 0), .int .u32 (cc.r 1), .int .u32 (cc.r 2), .int .u32 (cc.r 3), .int .u32 (cc.r 4), .int .u32 (cc.r 5), .int .u32 (cc.r 6), .int .u32 (cc.r 7), .complex .f64 (cc.z 0).1 (cc.z 0).2, .complex .f64 (cc.z 1).1 (cc.z 1).2, .int .u32 cc.pc] 28)) gc cc from HC3.out.alloc (.cells #[.int .u32 (cc.r 0), .int .u32 (cc.r 1), .int .u32 (cc.r 2), .int .u32 (cc.r 3), .int .u32 (cc.r 4), .int .u32 (cc.r 5), .int .u32 (cc.r 6), .int .u32 (cc.r 7), .complex .f64 (cc.z 0).1 (cc.z 0).2, .complex .f64 (cc.z 1).1 (cc.z 1).2, .int .u32 cc.pc] 28))
  have HB4 := Lib.hid (bl_new HB3.out (.cells #[.int .u32 (cc.r 0), .int .u32 (cc.r 1), .int .u32 (cc.r 2), .int .u32 (cc.r 3), .int .u32 (cc.r 4), .int .u32 (cc.r 5), .int .u32 (cc.r 6), .int .u32 (cc.r 7), .complex .f64 (cc.z 0).1 (cc.z 0).2, .complex .f64 (cc.z 1).1 (cc.z 1).2, .int .u32 cc.pc] 28))
  have HGD := Lib.hid (show gc < W3.heap.size from HC3.out.lt)
  clear HB3 HC3
  generalize W3.alloc (.cells #[.int .u32 (cc.r 0), .int .u32 (cc.r 1), .int .u32 (cc.r 2), .int .u32 (cc.r 3), .int .u32 (cc.r 4), .int .u32 (cc.r 5), .int .u32 (cc.r 6), .int .u32 (cc.r 7), .complex .f64 (cc.z 0).1 (cc.z 0).2, .complex .f64 (cc.z 1).1 (cc.z 1).2, .int .u32 cc.pc] 28) = W4 at *
  generalize W3.heap.size = gd at *
  have HZ := Lib.hid (Blk.new W4 5 #[])
  have HBZ := Lib.hid (bl_new HB4.out (.cells #[] 5))
  have HBY := Lib.hid (bl_new (Below.refl W4.heap.size W4) (.cells #[] 5))
  have HGS := Lib.hid (show w.heap.size ≤ W4.heap.size from HB4.out.size)
  have hla2 : ma.length ≤ 1000000 := by omega
  go_wp2_with (first
    | (at_builtin; refine wpList_copy_bytes rfl _ _ rfl rfl HZ.out _ _ ma rfl (HBA.out.belowB HBZ.out) hla2 ?_; intro Bk ck W5 hrow5 hcap5 hBk5 hBkl5 hbw5
       have HB6 := Lib.hid (bl_new (HBZ.out.trans (hbw5.mono HGS.out)) (.cells #[.slice (some ⟨Bk, 0, none⟩) ma.length ck] 46))
       have HZ8 := Lib.hid (show Blk ((W5.alloc (.cells #[.slice (some ⟨Bk, 0, none⟩) ma.length ck] 46)).alloc (.cells #[] 5)) (W5.heap.size + 1) 5 #[] from by
         have h := Blk.new (W5.alloc (.cells #[.slice (some ⟨Bk, 0, none⟩) ma.length ck] 46)) 5 #[]
         rw [World.size_alloc] at h
         exact h)
       have HBZ8 := Lib.hid (bl_new HB6.out (.cells #[] 5)))
    | (at_builtin; refine wpList_copy_bytes rfl _ _ rfl rfl HZ8.out _ _ ma rfl (HBA.out.belowB HBZ8.out) hla2 ?_; intro Bl cl W8 hrow hcap hBk hBkl hbw; go_upto_region 7 with (fail)))
  have hnew := Blk.new W5 46 #[.slice (some ⟨Bk, 0, none⟩) ma.length ck]
  have hbn := bl_new (Below.refl W5.heap.size W5) (.cells #[.slice (some ⟨Bk, 0, none⟩) ma.length ck] 46)
  have hb45 := HBY.out.trans hbw5
  have hsz : (W5.alloc (.cells #[.slice (some ⟨Bk, 0, none⟩) ma.length ck] 46)).heap.size = W5.heap.size + 1 := World.size_alloc ..
  have hb68 : Below (W5.alloc (.cells #[.slice (some ⟨Bk, 0, none⟩) ma.length ck] 46)).heap.size (W5.alloc (.cells #[.slice (some ⟨Bk, 0, none⟩) ma.length ck] 46)) W8 := by
    have h1 := bl_new (Below.refl (W5.alloc (.cells #[.slice (some ⟨Bk, 0, none⟩) ma.length ck] 46)).heap.size (W5.alloc (.cells #[.slice (some ⟨Bk, 0, none⟩) ma.length ck] 46))) (.cells #[] 5)
    rw [hsz] at h1 ⊢
    exact h1.trans hbw
  have hc6 : CpAt (W5.alloc (.cells #[.slice (some ⟨Bk, 0, none⟩) ma.length ck] 46)) gc cc := (HC4.out.below hb45 HC4.out.lt).alloc (.cells #[.slice (some ⟨Bk, 0, none⟩) ma.length ck] 46)
  have hd6 : CpAt (W5.alloc (.cells #[.slice (some ⟨Bk, 0, none⟩) ma.length ck] 46)) gd cc := (HD4.out.below hb45 HD4.out.lt).alloc (.cells #[.slice (some ⟨Bk, 0, none⟩) ma.length ck] 46)
  have hm6 : RamAt (W5.alloc (.cells #[.slice (some ⟨Bk, 0, none⟩) ma.length ck] 46)) W5.heap.size (some ⟨Bk, 0, none⟩) Bk ck ma := ⟨hnew, hrow5.below hbn, hcap5, by omega, HLA.out, by omega⟩
  have HS8 := Lib.hid (show SI w gc gd W5.heap.size Bk ck Bl cl ma.length cc cc ma ma W8 from
    ⟨hc6.below hb68 hc6.lt, hd6.below hb68 hd6.lt, hm6.below hb68, ⟨hrow, hcap, HLA.out, by omega⟩, rfl, rfl, by have := hb68.size; omega, hBkl, HB6.out.trans (hb68.mono HB6.out.size)⟩)
  have HDJ := Lib.hid (show Dj w gc gd W5.heap.size Bk Bl from by
    have h1 := HGD.out
    have h2 := HD4.out.lt
    have h3 := HGC.out
    have h4 := hbw5.size
    constructor <;> omega)
  clear hrow5 hcap5 hBk5 hBkl5 hbw5 hnew hbn hb45 HC4 HD4 HB4 HZ HBZ HBY HGS HGD HGC hrow hcap hBk hBkl hbw hb68 hsz hc6 hd6 hm6 HB6 HZ8 HBZ8 hla2
  generalize W5.heap.size = g at *
  have hms : most ≤ 200 := by omega
  obtain ⟨M, hM⟩ : ∃ M, most.toNat = M := ⟨_, rfl⟩
  have HMM := Lib.hid hM
  clear hM
  generalize ma.length = N at *
  go_loopw [15, 16] (fun i e wr => ∃ (j : Nat) (t : Int) (dd : Cp) (ml : List Int), i = .int .i64 (j : Int) ∧ e = .int .i64 t ∧ j ≤ 200 ∧ dd.Ok ∧ (∀ x ∈ ml, 0 ≤ x ∧ x ≤ 255) ∧ Hid (Goes cc ma M j t dd ml) ∧ SI w gc gd g Bk ck Bl cl N cc dd ma ml wr) (fun i e _ => 2 * (200 - (intOf i).toNat) + (if intOf e = 0 then 1 else 0))
  case atStart => exact ⟨0, 0, cc, ma, rfl, rfl, by omega, HOK.out, HLA.out, Lib.hid (Goes.start cc ma M), HS8.out⟩
  case round =>
    obtain ⟨j, t, dd, ml, rfl, rfl, hj, hok, hlow, HGO, hsi⟩ := hrel
    clear HS8 HCPU HBA
    have SS := Lib.hid hsi
    by_cases hgo : t = 0 ∧ (j : Int) < most
    · obtain ⟨rfl, hjm⟩ := hgo
      obtain ⟨⟨n, t, m1⟩, hst⟩ : ∃ x, stepP dd ml = x := ⟨_, rfl⟩
      have HST := Lib.hid hst
      have HN := Lib.hid (show n.Ok ∧ ∀ x ∈ m1, 0 ≤ x ∧ x ≤ 255 from by
        have h1 := step_ok hok hlow
        have h2 := step_low hok hlow
        rw [hst] at h1 h2
        exact ⟨h1, h2⟩)
      have HOD := Lib.hid hok
      clear hst hsi hok hlow
      obtain ⟨x0, x1, x2, x3, x4, x5, x6, x7, x8, x9, x10, xlt⟩ := cp_all SS.out.dd
      go_wp2_with (fail)
      refine (refStep7 SS.out HDJ.out HOD.out HST.out).mono ?_
      rintro e W1 ⟨rfl, hs, hb⟩
      have S1 := Lib.hid hs
      clear x0 x1 x2 x3 x4 x5 x6 x7 x8 x9 x10 xlt
      clear hs hb SS HOD
      go_upto_region 11 with (fail)
      have HN5 := Lib.hid (show CpAt (W1.alloc (.cells #[.int .u32 (n.r 0), .int .u32 (n.r 1), .int .u32 (n.r 2), .int .u32 (n.r 3), .int .u32 (n.r 4), .int .u32 (n.r 5), .int .u32 (n.r 6), .int .u32 (n.r 7), .complex .f64 (n.z 0).1 (n.z 0).2, .complex .f64 (n.z 1).1 (n.z 1).2, .int .u32 n.pc] 28)) W1.heap.size n from Blk.new W1 28 n.arr)
      have S5 := Lib.hid (S1.out.below (bl_new (Below.refl W1.heap.size W1) (.cells #[.int .u32 (n.r 0), .int .u32 (n.r 1), .int .u32 (n.r 2), .int .u32 (n.r 3), .int .u32 (n.r 4), .int .u32 (n.r 5), .int .u32 (n.r 6), .int .u32 (n.r 7), .complex .f64 (n.z 0).1 (n.z 0).2, .complex .f64 (n.z 1).1 (n.z 1).2, .int .u32 n.pc] 28)))
      clear S1
      generalize W1.alloc (.cells #[.int .u32 (n.r 0), .int .u32 (n.r 1), .int .u32 (n.r 2), .int .u32 (n.r 3), .int .u32 (n.r 4), .int .u32 (n.r 5), .int .u32 (n.r 6), .int .u32 (n.r 7), .complex .f64 (n.z 0).1 (n.z 0).2, .complex .f64 (n.z 1).1 (n.z 1).2, .int .u32 n.pc] 28) = W5 at *
      generalize W1.heap.size = gn at *
      obtain ⟨x0, x1, x2, x3, x4, x5, x6, x7, x8, x9, x10, xlt⟩ := cp_all HN5.out
      obtain ⟨y0, y1, y2, y3, y4, y5, y6, y7, y8, y9, y10, ylt⟩ := cp_all S5.out.dd
      have yf0 := (S5.out.dd).frozen 0
      have yf1 := (S5.out.dd).frozen 1
      have yf2 := (S5.out.dd).frozen 2
      have yf3 := (S5.out.dd).frozen 3
      have yf4 := (S5.out.dd).frozen 4
      have yf5 := (S5.out.dd).frozen 5
      have yf6 := (S5.out.dd).frozen 6
      have yf7 := (S5.out.dd).frozen 7
      have yf8 := (S5.out.dd).frozen 8
      have yf9 := (S5.out.dd).frozen 9
      have yf10 := (S5.out.dd).frozen 10
      go_upto_region 12 with (fail)
      have S6 := Lib.hid (show SI w gc gd g Bk ck Bl cl N cc n ma m1 (((((((((((W5.setCell ⟨gd, 0, none⟩ (.int .u32 (n.r 0))).setCell ⟨gd, 1, none⟩ (.int .u32 (n.r 1))).setCell ⟨gd, 2, none⟩ (.int .u32 (n.r 2))).setCell ⟨gd, 3, none⟩ (.int .u32 (n.r 3))).setCell ⟨gd, 4, none⟩ (.int .u32 (n.r 4))).setCell ⟨gd, 5, none⟩ (.int .u32 (n.r 5))).setCell ⟨gd, 6, none⟩ (.int .u32 (n.r 6))).setCell ⟨gd, 7, none⟩ (.int .u32 (n.r 7))).setCell ⟨gd, 8, none⟩ (.complex .f64 (n.z 0).1 (n.z 0).2)).setCell ⟨gd, 9, none⟩ (.complex .f64 (n.z 1).1 (n.z 1).2)).setCell ⟨gd, 10, none⟩ (.int .u32 n.pc)) from
        S5.out.putD HDJ.out (set11_blk (show Blk W5 gd 28 #[.int .u32 (dd.r 0), .int .u32 (dd.r 1), .int .u32 (dd.r 2), .int .u32 (dd.r 3), .int .u32 (dd.r 4), .int .u32 (dd.r 5), .int .u32 (dd.r 6), .int .u32 (dd.r 7), .complex .f64 (dd.z 0).1 (dd.z 0).2, .complex .f64 (dd.z 1).1 (dd.z 1).2, .int .u32 dd.pc] from S5.out.dd) (.int .u32 (n.r 0)) (.int .u32 (n.r 1)) (.int .u32 (n.r 2)) (.int .u32 (n.r 3)) (.int .u32 (n.r 4)) (.int .u32 (n.r 5)) (.int .u32 (n.r 6)) (.int .u32 (n.r 7)) (.complex .f64 (n.z 0).1 (n.z 0).2) (.complex .f64 (n.z 1).1 (n.z 1).2) (.int .u32 n.pc)) (set11_but (S := fun k => k = gd) (g := gd) (But.refl _ W5) (.inl rfl) (.int .u32 (n.r 0)) (.int .u32 (n.r 1)) (.int .u32 (n.r 2)) (.int .u32 (n.r 3)) (.int .u32 (n.r 4)) (.int .u32 (n.r 5)) (.int .u32 (n.r 6)) (.int .u32 (n.r 7)) (.complex .f64 (n.z 0).1 (n.z 0).2) (.complex .f64 (n.z 1).1 (n.z 1).2) (.int .u32 n.pc)))
      clear x0 x1 x2 x3 x4 x5 x6 x7 x8 x9 x10 xlt
      clear y0 y1 y2 y3 y4 y5 y6 y7 y8 y9 y10 ylt yf0 yf1 yf2 yf3 yf4 yf5 yf6 yf7 yf8 yf9 yf10
      clear S5 HN5
      generalize ((((((((((W5.setCell ⟨gd, 0, none⟩ (.int .u32 (n.r 0))).setCell ⟨gd, 1, none⟩ (.int .u32 (n.r 1))).setCell ⟨gd, 2, none⟩ (.int .u32 (n.r 2))).setCell ⟨gd, 3, none⟩ (.int .u32 (n.r 3))).setCell ⟨gd, 4, none⟩ (.int .u32 (n.r 4))).setCell ⟨gd, 5, none⟩ (.int .u32 (n.r 5))).setCell ⟨gd, 6, none⟩ (.int .u32 (n.r 6))).setCell ⟨gd, 7, none⟩ (.int .u32 (n.r 7))).setCell ⟨gd, 8, none⟩ (.complex .f64 (n.z 0).1 (n.z 0).2)).setCell ⟨gd, 9, none⟩ (.complex .f64 (n.z 1).1 (n.z 1).2)).setCell ⟨gd, 10, none⟩ (.int .u32 n.pc) = W6 at *
      have hjM : j < M := by have := HMM.out; omega
      by_cases ht : t = 0
      · subst ht
        have HG2 := Lib.hid (HGO.out.more hjM HST.out)
        clear HGO HST
        go_wp2_with (fail)
        exact ⟨⟨j + 1, 0, n, m1, by simp, rfl, by omega, HN.out.1, HN.out.2, HG2, S6.out⟩, by simp [intOf]; omega⟩
      · have HG2 := Lib.hid (HGO.out.trap hjM HST.out ht)
        have htn : (t == 0) = false := by simpa using ht
        clear HGO HST
        go_wp2_with (fail)
        exact ⟨⟨j, t, n, m1, rfl, rfl, hj, HN.out.1, HN.out.2, HG2, S6.out⟩, by simp [intOf, ht]⟩
    · have HR := Lib.hid (show runP cc ma most.toNat = (dd, j, t, ml) from by
        rw [HMM.out]
        exact HGO.out.done (fun h => hgo ⟨h.1, by have := HMM.out; omega⟩))
      clear HGO hok hlow hsi HMM
      have hsplit : ((j : Int) < most ∧ ¬ t = 0) ∨ ¬ (j : Int) < most := by
        by_cases h : (j : Int) < most
        · exact .inl ⟨h, fun ht => hgo ⟨ht, h⟩⟩
        · exact .inr h
      have HHP := Lib.hid hsplit
      clear hgo hsplit
      obtain ⟨at', rfl⟩ := Int.eq_ofNat_of_zero_le hat.1
      obtain ⟨m2, hm2⟩ : ∃ m2, (if at' + 4 ≤ N then set4 ml at' v else ml) = m2 := ⟨_, rfl⟩
      obtain ⟨f1, f2, f3, f4⟩ := ram_facts hv SS.out.ll hm2
      have HM2 := Lib.hid hm2
      have HA4 := Lib.hid (show at' < 4294967296 from by omega)
      have HMO := Lib.hid hmost
      have HVR := Lib.hid hv
      obtain ⟨b1, hb1⟩ : ∃ b1, ml.getD at' 0 = b1 := ⟨_, rfl⟩
      obtain ⟨b2, hb2⟩ : ∃ b2, (m2.set at' 7).getD at' 0 = b2 := ⟨_, rfl⟩
      obtain ⟨v2, hv2⟩ : ∃ v2, (wordM m2 at').getD 0 = v2 := ⟨_, rfl⟩
      rw [hb1] at f4
      rw [hb2] at f3
      rw [hv2] at f2
      have F1 := Lib.hid f1
      have F2 := Lib.hid f2
      have F3 := Lib.hid f3
      have F4 := Lib.hid f4
      have HB1 := Lib.hid hb1
      have HB2 := Lib.hid hb2
      have HV2 := Lib.hid hv2
      have HT := Lib.hid (SS.out.ll)
      clear f1 f2 f3 f4 hb1 hb2 hv2 hm2 hv hmost
      have hat1 := hat.2
      have hnw : (N : Int) ≤ 2000 := by omega
      have hN0 : (0 : Int) ≤ (N : Int) := by omega
      clear hat
      rcases HHP.out with ⟨hjm, ht0⟩ | hjm
      · have htn : (t == 0) = false := by simpa using ht0
        clear ht0
        go_upto_region 15 with (fail)
        obtain ⟨x0, x1, x2, x3, x4, x5, x6, x7, x8, x9, x10, xlt⟩ := cp_all SS.out.cc
        go_wp2_with (fail)
        refine (run7 HG.out SS.out HDJ.out HOK.out most HMO.out HR.out HT.out).mono ?_
        rintro e W1 ⟨rfl, hs⟩
        have S1 := Lib.hid hs
        clear x0 x1 x2 x3 x4 x5 x6 x7 x8 x9 x10 xlt
        clear hs SS HR
        go_upto_region 16 with (fail)
        have SN7 := Lib.hid (show SN w gc gd g Bk ck Bl cl N cc dd ml ml W1.heap.size W1.heap.size dd dd (W1.alloc (.cells #[.int .u32 (dd.r 0), .int .u32 (dd.r 1), .int .u32 (dd.r 2), .int .u32 (dd.r 3), .int .u32 (dd.r 4), .int .u32 (dd.r 5), .int .u32 (dd.r 6), .int .u32 (dd.r 7), .complex .f64 (dd.z 0).1 (dd.z 0).2, .complex .f64 (dd.z 1).1 (dd.z 1).2, .int .u32 dd.pc] 28)) from
          ⟨S1.out.below (bl_new (Below.refl W1.heap.size W1) (.cells #[.int .u32 (dd.r 0), .int .u32 (dd.r 1), .int .u32 (dd.r 2), .int .u32 (dd.r 3), .int .u32 (dd.r 4), .int .u32 (dd.r 5), .int .u32 (dd.r 6), .int .u32 (dd.r 7), .complex .f64 (dd.z 0).1 (dd.z 0).2, .complex .f64 (dd.z 1).1 (dd.z 1).2, .int .u32 dd.pc] 28)), Blk.new W1 28 dd.arr, Blk.new W1 28 dd.arr⟩)
        clear S1
        generalize W1.alloc (.cells #[.int .u32 (dd.r 0), .int .u32 (dd.r 1), .int .u32 (dd.r 2), .int .u32 (dd.r 3), .int .u32 (dd.r 4), .int .u32 (dd.r 5), .int .u32 (dd.r 6), .int .u32 (dd.r 7), .complex .f64 (dd.z 0).1 (dd.z 0).2, .complex .f64 (dd.z 1).1 (dd.z 1).2, .int .u32 dd.pc] 28) = W7 at *
        generalize W1.heap.size = gx at *
        have HSAME := Lib.hid (fun W => same_lit dd W)
        refine wp_region_held_drew (S := (fun W => SN w gc gd g Bk ck Bl cl N cc dd ml ml gx gx dd dd W)) (by kernel_rfl) (SN7.out.below (Below.refl _ _).drew) (fun hS => ?_)
        refine wpAnyH_take (i := 0) (v := ?_) rfl (by kernel_rfl) (by kernel_rfl) (by kernel_rfl) (fun _ _ _ h => h) (Or.inl ⟨by kernel_rfl, ?_⟩) hS ?_
        rotate_left 1
        · intro w hT
          obtain ⟨x0, x1, x2, x3, x4, x5, x6, x7, x8, x9, x10, xlt⟩ := cp_all hT.nn
          go_simp
          all_goals with_reducible rfl
        refine wpAnyH_take (i := 1) (v := ?_) rfl (by kernel_rfl) (by kernel_rfl) (by kernel_rfl) (fun _ _ _ h => h) (Or.inl ⟨by kernel_rfl, ?_⟩) hS ?_
        rotate_left 1
        · intro w hT
          obtain ⟨x0, x1, x2, x3, x4, x5, x6, x7, x8, x9, x10, xlt⟩ := cp_all hT.si.dd
          go_simp
          all_goals with_reducible rfl
        refine wpAnyH_ready (rs := [2]) (by kernel_rfl) (by simp) ?_
        refine AllReadyH.cons rfl (fun K hK => ?_) AllReadyH.nil
        go_simp
        refine (HSAME.out _).mono ?_
        rintro e Wb ⟨rfl, hbb⟩
        refine hK.out _ _ (hS.below hbb) (fun hS => ?_)
        clear hK K
        refine wpAnyH_take (i := 3) (v := ?_) rfl (by kernel_rfl) (by kernel_rfl) (by kernel_rfl) (fun _ _ _ h => h) (Or.inl ⟨by kernel_rfl, ?_⟩) hS ?_
        rotate_left 1
        · intro w hT
          go_simp
          all_goals with_reducible rfl
        refine wpAnyH_take (i := 4) (v := ?_) rfl (by kernel_rfl) (by kernel_rfl) (by kernel_rfl) (fun _ _ _ h => h) (Or.inl ⟨by kernel_rfl, ?_⟩) hS ?_
        rotate_left 1
        · intro w hT
          go_simp
          all_goals with_reducible rfl
        refine wpAnyH_take (i := 5) (v := ?_) rfl (by kernel_rfl) (by kernel_rfl) (by kernel_rfl) (fun _ _ _ h => h) (Or.inl ⟨by kernel_rfl, ?_⟩) hS ?_
        rotate_left 1
        · intro w hT
          go_simp
          all_goals with_reducible rfl
        refine wpAnyH_take (i := 6) (v := ?_) rfl (by kernel_rfl) (by kernel_rfl) (by kernel_rfl) (fun _ _ _ h => h) (Or.inl ⟨by kernel_rfl, ?_⟩) hS ?_
        rotate_left 1
        · intro w hT
          go_simp
          all_goals with_reducible rfl
        refine wpAnyH_take (i := 7) (v := ?_) rfl (by kernel_rfl) (by kernel_rfl) (by kernel_rfl) (fun _ _ _ h => h) (Or.inl ⟨by kernel_rfl, ?_⟩) hS ?_
        rotate_left 1
        · intro w hT
          go_simp
          all_goals with_reducible rfl
        refine wpAnyH_take (i := 8) (v := ?_) rfl (by kernel_rfl) (by kernel_rfl) (by kernel_rfl) (fun _ _ _ h => h) (Or.inl ⟨by kernel_rfl, ?_⟩) hS ?_
        rotate_left 1
        · intro w hT
          go_simp
          all_goals with_reducible rfl
        refine wpAnyH_take (i := 9) (v := ?_) rfl (by kernel_rfl) (by kernel_rfl) (by kernel_rfl) (fun _ _ _ h => h) (Or.inl ⟨by kernel_rfl, ?_⟩) hS ?_
        rotate_left 1
        · intro w hT
          go_simp
          all_goals with_reducible rfl
        refine wpAnyH_take (i := 10) (v := ?_) rfl (by kernel_rfl) (by kernel_rfl) (by kernel_rfl) (fun _ _ _ h => h) (Or.inl ⟨by kernel_rfl, ?_⟩) hS ?_
        rotate_left 1
        · intro w hT
          go_simp
          all_goals with_reducible rfl
        refine wpAnyH_take (i := 11) (v := ?_) rfl (by kernel_rfl) (by kernel_rfl) (by kernel_rfl) (fun _ _ _ h => h) (Or.inl ⟨by kernel_rfl, ?_⟩) hS ?_
        rotate_left 1
        · intro w hT
          go_simp
          all_goals with_reducible rfl
        refine wpAnyH_take (i := 12) (v := ?_) rfl (by kernel_rfl) (by kernel_rfl) (by kernel_rfl) (fun _ _ _ h => h) (Or.inl ⟨by kernel_rfl, ?_⟩) hS ?_
        rotate_left 1
        · intro w hT
          go_simp
          all_goals with_reducible rfl
        refine wpAnyH_take (i := 13) (v := ?_) rfl (by kernel_rfl) (by kernel_rfl) (by kernel_rfl) (fun _ _ _ h => h) (Or.inl ⟨by kernel_rfl, ?_⟩) hS ?_
        rotate_left 1
        · intro w hT
          go_simp
          all_goals with_reducible rfl
        refine wpAnyH_take (i := 14) (v := ?_) rfl (by kernel_rfl) (by kernel_rfl) (by kernel_rfl) (fun _ _ _ h => h) (Or.inl ⟨by kernel_rfl, ?_⟩) hS ?_
        rotate_left 1
        · intro w hT
          go_simp
          all_goals with_reducible rfl
        refine wpAnyH_take (i := 15) (v := ?_) rfl (by kernel_rfl) (by kernel_rfl) (by kernel_rfl) (fun _ _ _ h => h) (Or.inl ⟨by kernel_rfl, ?_⟩) hS ?_
        rotate_left 1
        · intro w hT
          go_simp
          all_goals with_reducible rfl
        refine wpAnyH_take (i := 16) (v := ?_) rfl (by kernel_rfl) (by kernel_rfl) (by kernel_rfl) (fun _ _ _ h => h) (Or.inl ⟨by kernel_rfl, ?_⟩) hS ?_
        rotate_left 1
        · intro w hT
          have glt := hT.si.m.p.lt
          go_simp
          all_goals with_reducible rfl
        refine wpAnyH_take (i := 17) (v := ?_) rfl (by kernel_rfl) (by kernel_rfl) (by kernel_rfl) (fun _ _ _ h => h) (Or.inl ⟨by kernel_rfl, ?_⟩) hS ?_
        rotate_left 1
        · intro w hT
          have glt := hT.si.m.p.lt
          go_simp
          all_goals with_reducible rfl
        refine wpAnyH_take (i := 18) (v := ?_) rfl (by kernel_rfl) (by kernel_rfl) (by kernel_rfl) (fun _ _ _ h => h) (Or.inl ⟨by kernel_rfl, ?_⟩) hS ?_
        rotate_left 1
        · intro w hT
          have g0 := hT.si.m.p.cell 0
          have glt := hT.si.m.p.lt
          rw [hT.si.lm] at g0
          simp only [List.getElem?_toArray, List.getElem?_cons_zero] at g0
          go_simp
          all_goals with_reducible rfl
        refine wpAnyH_take (i := 19) (v := ?_) rfl (by kernel_rfl) (by kernel_rfl) (by kernel_rfl) (fun _ _ _ h => h) (Or.inl ⟨by kernel_rfl, ?_⟩) hS ?_
        rotate_left 1
        · intro w hT
          have hv := conv7 (ram_bytes hT.si.m) ck
          rw [hT.si.lm] at hv
          go_simp
          all_goals with_reducible rfl
        refine wpAnyH_take (i := 20) (v := ?_) rfl (by kernel_rfl) (by kernel_rfl) (by kernel_rfl) (fun _ _ _ h => h) (Or.inl ⟨by kernel_rfl, ?_⟩) hS ?_
        rotate_left 1
        · intro w hT
          go_simp
          all_goals with_reducible rfl
        refine wpAnyH_take (i := 21) (v := ?_) rfl (by kernel_rfl) (by kernel_rfl) (by kernel_rfl) (fun _ _ _ h => h) (Or.inl ⟨by kernel_rfl, ?_⟩) hS ?_
        rotate_left 1
        · intro w hT
          have hv := conv7 (byin_bytes hT.si.l) cl
          rw [hT.si.ll] at hv
          go_simp
          all_goals with_reducible rfl
        refine wpAnyH_take (i := 22) (v := ?_) rfl (by kernel_rfl) (by kernel_rfl) (by kernel_rfl) (fun _ _ _ h => h) (Or.inl ⟨by kernel_rfl, ?_⟩) hS ?_
        rotate_left 1
        · intro w hT
          go_simp
          all_goals with_reducible rfl
        refine wpAnyH_take (i := 23) (v := ?_) rfl (by kernel_rfl) (by kernel_rfl) (by kernel_rfl) (fun _ _ _ h => h) (Or.inl ⟨by kernel_rfl, ?_⟩) hS ?_
        rotate_left 1
        · intro w hT
          go_simp
          all_goals with_reducible rfl
        refine wpAnyH_done (by kernel_rfl) ?_ _
        have SZ := Lib.hid hS.si
        clear hS SN7 HSAME
        go_simp
        go_upto_region 18 with (fail)
        go_wp2_with (fail)
        refine (byte7 SZ.out at' HA4.out rfl HB1.out).mono ?_
        rintro e _ ⟨rfl, rfl⟩
        go_wp2_with (fail)
        refine (setWord7 SZ.out HDJ.out at' HA4.out v HVR.out rfl HM2.out).mono ?_
        rintro e W8 ⟨rfl, hs⟩
        have S8 := Lib.hid hs
        clear hs SZ
        go_wp2_with (fail)
        refine (word7 S8.out at' HA4.out HV2.out F1.out).mono ?_
        rintro e W9 ⟨rfl, hs⟩
        have S9 := Lib.hid hs
        clear hs S8
        go_wp2_with (fail)
        refine (setByte7 S9.out HDJ.out at' HA4.out 7 ⟨by decide, by decide⟩ rfl rfl).mono ?_
        rintro e W10 ⟨rfl, hs⟩
        have S10 := Lib.hid hs
        clear hs S9
        go_wp2_with (fail)
        refine (byte7 S10.out at' HA4.out rfl HB2.out).mono ?_
        rintro e _ ⟨rfl, rfl⟩
        go_upto_region 25 with (fail)
        by_cases ha : at' < N
        · have hai : (at' : Int) < (N : Int) := by omega
          obtain ⟨_, hlt, hc, hfz⟩ := S10.out.l.cell (F4.out ha)
          have e3 := F3.out ha
          subst e3
          by_cases h4 : at' + 4 ≤ N
          · have h4i : (at' : Int) + 4 ≤ (N : Int) := by omega
            have e2 := F2.out h4
            subst e2
            go_wp2
            go_ret
            exact ⟨rfl, S10.out.b⟩
          · have h4i : ¬ (at' : Int) + 4 ≤ (N : Int) := by omega
            go_wp2
            go_ret
            exact ⟨rfl, S10.out.b⟩
        · have hai : ¬ (at' : Int) < (N : Int) := by omega
          have h4 : ¬ at' + 4 ≤ N := by omega
          have h4i : ¬ (at' : Int) + 4 ≤ (N : Int) := by omega
          go_wp2
          go_ret
          exact ⟨rfl, S10.out.b⟩
      · go_upto_region 15 with (fail)
        obtain ⟨x0, x1, x2, x3, x4, x5, x6, x7, x8, x9, x10, xlt⟩ := cp_all SS.out.cc
        go_wp2_with (fail)
        refine (run7 HG.out SS.out HDJ.out HOK.out most HMO.out HR.out HT.out).mono ?_
        rintro e W1 ⟨rfl, hs⟩
        have S1 := Lib.hid hs
        clear x0 x1 x2 x3 x4 x5 x6 x7 x8 x9 x10 xlt
        clear hs SS HR
        go_upto_region 16 with (fail)
        have SN7 := Lib.hid (show SN w gc gd g Bk ck Bl cl N cc dd ml ml W1.heap.size W1.heap.size dd dd (W1.alloc (.cells #[.int .u32 (dd.r 0), .int .u32 (dd.r 1), .int .u32 (dd.r 2), .int .u32 (dd.r 3), .int .u32 (dd.r 4), .int .u32 (dd.r 5), .int .u32 (dd.r 6), .int .u32 (dd.r 7), .complex .f64 (dd.z 0).1 (dd.z 0).2, .complex .f64 (dd.z 1).1 (dd.z 1).2, .int .u32 dd.pc] 28)) from
          ⟨S1.out.below (bl_new (Below.refl W1.heap.size W1) (.cells #[.int .u32 (dd.r 0), .int .u32 (dd.r 1), .int .u32 (dd.r 2), .int .u32 (dd.r 3), .int .u32 (dd.r 4), .int .u32 (dd.r 5), .int .u32 (dd.r 6), .int .u32 (dd.r 7), .complex .f64 (dd.z 0).1 (dd.z 0).2, .complex .f64 (dd.z 1).1 (dd.z 1).2, .int .u32 dd.pc] 28)), Blk.new W1 28 dd.arr, Blk.new W1 28 dd.arr⟩)
        clear S1
        generalize W1.alloc (.cells #[.int .u32 (dd.r 0), .int .u32 (dd.r 1), .int .u32 (dd.r 2), .int .u32 (dd.r 3), .int .u32 (dd.r 4), .int .u32 (dd.r 5), .int .u32 (dd.r 6), .int .u32 (dd.r 7), .complex .f64 (dd.z 0).1 (dd.z 0).2, .complex .f64 (dd.z 1).1 (dd.z 1).2, .int .u32 dd.pc] 28) = W7 at *
        generalize W1.heap.size = gx at *
        have HSAME := Lib.hid (fun W => same_lit dd W)
        refine wp_region_held_drew (S := (fun W => SN w gc gd g Bk ck Bl cl N cc dd ml ml gx gx dd dd W)) (by kernel_rfl) (SN7.out.below (Below.refl _ _).drew) (fun hS => ?_)
        refine wpAnyH_take (i := 0) (v := ?_) rfl (by kernel_rfl) (by kernel_rfl) (by kernel_rfl) (fun _ _ _ h => h) (Or.inl ⟨by kernel_rfl, ?_⟩) hS ?_
        rotate_left 1
        · intro w hT
          obtain ⟨x0, x1, x2, x3, x4, x5, x6, x7, x8, x9, x10, xlt⟩ := cp_all hT.nn
          go_simp
          all_goals with_reducible rfl
        refine wpAnyH_take (i := 1) (v := ?_) rfl (by kernel_rfl) (by kernel_rfl) (by kernel_rfl) (fun _ _ _ h => h) (Or.inl ⟨by kernel_rfl, ?_⟩) hS ?_
        rotate_left 1
        · intro w hT
          obtain ⟨x0, x1, x2, x3, x4, x5, x6, x7, x8, x9, x10, xlt⟩ := cp_all hT.si.dd
          go_simp
          all_goals with_reducible rfl
        refine wpAnyH_ready (rs := [2]) (by kernel_rfl) (by simp) ?_
        refine AllReadyH.cons rfl (fun K hK => ?_) AllReadyH.nil
        go_simp
        refine (HSAME.out _).mono ?_
        rintro e Wb ⟨rfl, hbb⟩
        refine hK.out _ _ (hS.below hbb) (fun hS => ?_)
        clear hK K
        refine wpAnyH_take (i := 3) (v := ?_) rfl (by kernel_rfl) (by kernel_rfl) (by kernel_rfl) (fun _ _ _ h => h) (Or.inl ⟨by kernel_rfl, ?_⟩) hS ?_
        rotate_left 1
        · intro w hT
          go_simp
          all_goals with_reducible rfl
        refine wpAnyH_take (i := 4) (v := ?_) rfl (by kernel_rfl) (by kernel_rfl) (by kernel_rfl) (fun _ _ _ h => h) (Or.inl ⟨by kernel_rfl, ?_⟩) hS ?_
        rotate_left 1
        · intro w hT
          go_simp
          all_goals with_reducible rfl
        refine wpAnyH_take (i := 5) (v := ?_) rfl (by kernel_rfl) (by kernel_rfl) (by kernel_rfl) (fun _ _ _ h => h) (Or.inl ⟨by kernel_rfl, ?_⟩) hS ?_
        rotate_left 1
        · intro w hT
          go_simp
          all_goals with_reducible rfl
        refine wpAnyH_take (i := 6) (v := ?_) rfl (by kernel_rfl) (by kernel_rfl) (by kernel_rfl) (fun _ _ _ h => h) (Or.inl ⟨by kernel_rfl, ?_⟩) hS ?_
        rotate_left 1
        · intro w hT
          go_simp
          all_goals with_reducible rfl
        refine wpAnyH_take (i := 7) (v := ?_) rfl (by kernel_rfl) (by kernel_rfl) (by kernel_rfl) (fun _ _ _ h => h) (Or.inl ⟨by kernel_rfl, ?_⟩) hS ?_
        rotate_left 1
        · intro w hT
          go_simp
          all_goals with_reducible rfl
        refine wpAnyH_take (i := 8) (v := ?_) rfl (by kernel_rfl) (by kernel_rfl) (by kernel_rfl) (fun _ _ _ h => h) (Or.inl ⟨by kernel_rfl, ?_⟩) hS ?_
        rotate_left 1
        · intro w hT
          go_simp
          all_goals with_reducible rfl
        refine wpAnyH_take (i := 9) (v := ?_) rfl (by kernel_rfl) (by kernel_rfl) (by kernel_rfl) (fun _ _ _ h => h) (Or.inl ⟨by kernel_rfl, ?_⟩) hS ?_
        rotate_left 1
        · intro w hT
          go_simp
          all_goals with_reducible rfl
        refine wpAnyH_take (i := 10) (v := ?_) rfl (by kernel_rfl) (by kernel_rfl) (by kernel_rfl) (fun _ _ _ h => h) (Or.inl ⟨by kernel_rfl, ?_⟩) hS ?_
        rotate_left 1
        · intro w hT
          go_simp
          all_goals with_reducible rfl
        refine wpAnyH_take (i := 11) (v := ?_) rfl (by kernel_rfl) (by kernel_rfl) (by kernel_rfl) (fun _ _ _ h => h) (Or.inl ⟨by kernel_rfl, ?_⟩) hS ?_
        rotate_left 1
        · intro w hT
          go_simp
          all_goals with_reducible rfl
        refine wpAnyH_take (i := 12) (v := ?_) rfl (by kernel_rfl) (by kernel_rfl) (by kernel_rfl) (fun _ _ _ h => h) (Or.inl ⟨by kernel_rfl, ?_⟩) hS ?_
        rotate_left 1
        · intro w hT
          go_simp
          all_goals with_reducible rfl
        refine wpAnyH_take (i := 13) (v := ?_) rfl (by kernel_rfl) (by kernel_rfl) (by kernel_rfl) (fun _ _ _ h => h) (Or.inl ⟨by kernel_rfl, ?_⟩) hS ?_
        rotate_left 1
        · intro w hT
          go_simp
          all_goals with_reducible rfl
        refine wpAnyH_take (i := 14) (v := ?_) rfl (by kernel_rfl) (by kernel_rfl) (by kernel_rfl) (fun _ _ _ h => h) (Or.inl ⟨by kernel_rfl, ?_⟩) hS ?_
        rotate_left 1
        · intro w hT
          go_simp
          all_goals with_reducible rfl
        refine wpAnyH_take (i := 15) (v := ?_) rfl (by kernel_rfl) (by kernel_rfl) (by kernel_rfl) (fun _ _ _ h => h) (Or.inl ⟨by kernel_rfl, ?_⟩) hS ?_
        rotate_left 1
        · intro w hT
          go_simp
          all_goals with_reducible rfl
        refine wpAnyH_take (i := 16) (v := ?_) rfl (by kernel_rfl) (by kernel_rfl) (by kernel_rfl) (fun _ _ _ h => h) (Or.inl ⟨by kernel_rfl, ?_⟩) hS ?_
        rotate_left 1
        · intro w hT
          have glt := hT.si.m.p.lt
          go_simp
          all_goals with_reducible rfl
        refine wpAnyH_take (i := 17) (v := ?_) rfl (by kernel_rfl) (by kernel_rfl) (by kernel_rfl) (fun _ _ _ h => h) (Or.inl ⟨by kernel_rfl, ?_⟩) hS ?_
        rotate_left 1
        · intro w hT
          have glt := hT.si.m.p.lt
          go_simp
          all_goals with_reducible rfl
        refine wpAnyH_take (i := 18) (v := ?_) rfl (by kernel_rfl) (by kernel_rfl) (by kernel_rfl) (fun _ _ _ h => h) (Or.inl ⟨by kernel_rfl, ?_⟩) hS ?_
        rotate_left 1
        · intro w hT
          have g0 := hT.si.m.p.cell 0
          have glt := hT.si.m.p.lt
          rw [hT.si.lm] at g0
          simp only [List.getElem?_toArray, List.getElem?_cons_zero] at g0
          go_simp
          all_goals with_reducible rfl
        refine wpAnyH_take (i := 19) (v := ?_) rfl (by kernel_rfl) (by kernel_rfl) (by kernel_rfl) (fun _ _ _ h => h) (Or.inl ⟨by kernel_rfl, ?_⟩) hS ?_
        rotate_left 1
        · intro w hT
          have hv := conv7 (ram_bytes hT.si.m) ck
          rw [hT.si.lm] at hv
          go_simp
          all_goals with_reducible rfl
        refine wpAnyH_take (i := 20) (v := ?_) rfl (by kernel_rfl) (by kernel_rfl) (by kernel_rfl) (fun _ _ _ h => h) (Or.inl ⟨by kernel_rfl, ?_⟩) hS ?_
        rotate_left 1
        · intro w hT
          go_simp
          all_goals with_reducible rfl
        refine wpAnyH_take (i := 21) (v := ?_) rfl (by kernel_rfl) (by kernel_rfl) (by kernel_rfl) (fun _ _ _ h => h) (Or.inl ⟨by kernel_rfl, ?_⟩) hS ?_
        rotate_left 1
        · intro w hT
          have hv := conv7 (byin_bytes hT.si.l) cl
          rw [hT.si.ll] at hv
          go_simp
          all_goals with_reducible rfl
        refine wpAnyH_take (i := 22) (v := ?_) rfl (by kernel_rfl) (by kernel_rfl) (by kernel_rfl) (fun _ _ _ h => h) (Or.inl ⟨by kernel_rfl, ?_⟩) hS ?_
        rotate_left 1
        · intro w hT
          go_simp
          all_goals with_reducible rfl
        refine wpAnyH_take (i := 23) (v := ?_) rfl (by kernel_rfl) (by kernel_rfl) (by kernel_rfl) (fun _ _ _ h => h) (Or.inl ⟨by kernel_rfl, ?_⟩) hS ?_
        rotate_left 1
        · intro w hT
          go_simp
          all_goals with_reducible rfl
        refine wpAnyH_done (by kernel_rfl) ?_ _
        have SZ := Lib.hid hS.si
        clear hS SN7 HSAME
        go_simp
        go_upto_region 18 with (fail)
        go_wp2_with (fail)
        refine (byte7 SZ.out at' HA4.out rfl HB1.out).mono ?_
        rintro e _ ⟨rfl, rfl⟩
        go_wp2_with (fail)
        refine (setWord7 SZ.out HDJ.out at' HA4.out v HVR.out rfl HM2.out).mono ?_
        rintro e W8 ⟨rfl, hs⟩
        have S8 := Lib.hid hs
        clear hs SZ
        go_wp2_with (fail)
        refine (word7 S8.out at' HA4.out HV2.out F1.out).mono ?_
        rintro e W9 ⟨rfl, hs⟩
        have S9 := Lib.hid hs
        clear hs S8
        go_wp2_with (fail)
        refine (setByte7 S9.out HDJ.out at' HA4.out 7 ⟨by decide, by decide⟩ rfl rfl).mono ?_
        rintro e W10 ⟨rfl, hs⟩
        have S10 := Lib.hid hs
        clear hs S9
        go_wp2_with (fail)
        refine (byte7 S10.out at' HA4.out rfl HB2.out).mono ?_
        rintro e _ ⟨rfl, rfl⟩
        go_upto_region 25 with (fail)
        by_cases ha : at' < N
        · have hai : (at' : Int) < (N : Int) := by omega
          obtain ⟨_, hlt, hc, hfz⟩ := S10.out.l.cell (F4.out ha)
          have e3 := F3.out ha
          subst e3
          by_cases h4 : at' + 4 ≤ N
          · have h4i : (at' : Int) + 4 ≤ (N : Int) := by omega
            have e2 := F2.out h4
            subst e2
            go_wp2
            go_ret
            exact ⟨rfl, S10.out.b⟩
          · have h4i : ¬ (at' : Int) + 4 ≤ (N : Int) := by omega
            go_wp2
            go_ret
            exact ⟨rfl, S10.out.b⟩
        · have hai : ¬ (at' : Int) < (N : Int) := by omega
          have h4 : ¬ at' + 4 ≤ N := by omega
          have h4i : ¬ (at' : Int) + 4 ≤ (N : Int) := by omega
          go_wp2
          go_ret
          exact ⟨rfl, S10.out.b⟩
end Go.Proofs.YtoglmemmdolbmaaDoor
