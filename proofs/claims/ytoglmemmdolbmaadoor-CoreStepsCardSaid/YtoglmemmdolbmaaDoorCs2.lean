/-
  The law CoreSteps, walked. Condition: the tables lie as the program's text lays them; the start's parts are words; the bytes can be read.
-/
import Derived.Test.YtoglmemmdolbmaaDoorCs1
namespace Go.Proofs.YtoglmemmdolbmaaDoor
open Go.RowKit Go.Shelf
set_option linter.unusedVariables false
set_option linter.unusedSimpArgs false
attribute [local go_sem] Oper.semAt_some
attribute [local go_sem] run_store_complex
attribute [local irreducible] floatOfInt wz


set_option maxRecDepth 100000 in
set_option maxHeartbeats 16000000 in
theorem stepsLaw_any {w : World} (hG : I.Laid w) (r : Nat → Int) (a b c d pc : Int) (hs : StartOk r pc) (Aa : Option Addr) (ca : Nat) (ma : List Int) (hA : B.BytesAt w Aa ma) (ha : ∀ x ∈ ma, 0 ≤ x ∧ x ≤ 255) (hla : ma.length ≤ maxLen) (many : Int) (hy : 0 ≤ many ∧ many ≤ 255) :
    Calls Tryd.prog 4 #[.agg (startArr r a b c d pc), .slice Aa ma.length ca, .int .u8 many] w fun e w' => e = .returned (.bool true) ∧ Below w.heap.size w w' := by
  have HCPU := Lib.hid (fun W => cpu_any (w := W) r a b c d pc)
  have HG := Lib.hid hG
  have HOK := Lib.hid (cpuS_ok hs a b c d)
  have HBA := Lib.hid hA
  have HLA := Lib.hid ha
  obtain ⟨cc, hcc⟩ : ∃ cc, cc = cpuS r a b c d pc := ⟨_, rfl⟩
  rw [← hcc] at HCPU HOK
  have hX := Blk.new w 42 (startArr r a b c d pc)
  have HB0 := Lib.hid (bl_new (Below.refl w.heap.size w) (.cells (startArr r a b c d pc) 42))
  have hla' : (ma.length : Int) ≤ 9223372036854775807 := by unfold maxLen at hla; omega
  clear hG hs hA ha hla hcc
  by_cases h1 : (2000 : Int) < (ma.length : Int)
  · go_enter Tryd.func4, Tryd.ntmps4
    go_wp2
    go_ret
    exact ⟨rfl, HB0.out⟩
  have s0 := hX.cell 0
  have s1 := hX.cell 1
  have s2 := hX.cell 2
  have s3 := hX.cell 3
  have s4 := hX.cell 4
  have s5 := hX.cell 5
  have s6 := hX.cell 6
  have s7 := hX.cell 7
  have s8 := hX.cell 8
  have s9 := hX.cell 9
  have s10 := hX.cell 10
  have s11 := hX.cell 11
  have s12 := hX.cell 12
  have slt := hX.lt
  clear hX
  unfold startArr at *
  simp only [List.getElem?_toArray, List.getElem?_cons_zero, List.getElem?_cons_succ] at s0 s1 s2 s3 s4 s5 s6 s7 s8 s9 s10 s11 s12
  go_enter Tryd.func4, Tryd.ntmps4
  go_wp2_with (fail)
  refine (HCPU.out _).mono ?_
  rintro e W2 ⟨he, hb2⟩
  dsimp only [Cp.arr] at he
  subst he
  have HB2 := Lib.hid (bl_step HB0.out hb2)
  clear s0 s1 s2 s3 s4 s5 s6 s7 s8 s9 s10 s11 s12 slt hb2 HB0
  go_upto_region 4 with (fail)
  have HC3 := Lib.hid (show CpAt (W2.alloc (.cells #[.int .u32 (cc.r 0), .int .u32 (cc.r 1), .int .u32 (cc.r 2), .int .u32 (cc.r 3), .int .u32 (cc.r 4), .int .u32 (cc.r 5), .int .u32 (cc.r 6), .int .u32 (cc.r 7), .complex .f64 (cc.z 0).1 (cc.z 0).2, .complex .f64 (cc.z 1).1 (cc.z 1).2, .int .u32 cc.pc] 28)) W2.heap.size cc from Blk.new W2 28 cc.arr)
  have HB3 := Lib.hid (bl_new HB2.out (.cells #[.int .u32 (cc.r 0), .int .u32 (cc.r 1), .int .u32 (cc.r 2), .int .u32 (cc.r 3), .int .u32 (cc.r 4), .int .u32 (cc.r 5), .int .u32 (cc.r 6), .int .u32 (cc.r 7), .complex .f64 (cc.z 0).1 (cc.z 0).2, .complex .f64 (cc.z 1).1 (cc.z 1).2, .int .u32 cc.pc] 28))
  have HGC := Lib.hid (show w.heap.size ≤ W2.heap.size from HB2.out.size)
  clear HB2
  generalize W2.alloc (.cells #[.int .u32 (cc.r 0), .int .u32 (cc.r 1), .int .u32 (cc.r 2), .int .u32 (cc.r 3), .int .u32 (cc.r 4), .int .u32 (cc.r 5), .int .u32 (cc.r 6), .int .u32 (cc.r 7), .complex .f64 (cc.z 0).1 (cc.z 0).2, .complex .f64 (cc.z 1).1 (cc.z 1).2, .int .u32 cc.pc] 28) = W3 at *
  generalize W2.heap.size = gc at *
  obtain ⟨x0, x1, x2, x3, x4, x5, x6, x7, x8, x9, x10, xlt⟩ := cp_all HC3.out
  go_upto_region 5 with (fail)
  clear x0 x1 x2 x3 x4 x5 x6 x7 x8 x9 x10 xlt
  have HD4 := Lib.hid (show CpAt (W3.alloc (.cells #[.int .u32 (cc.r 0), .int .u32 (cc.r 1), .int .u32 (cc.r 2), .int .u32 (cc.r 3), .int .u32 (cc.r 4), .int .u32 (cc.r 5), .int .u32 (cc.r 6), .int .u32 (cc.r 7), .complex .f64 (cc.z 0).1 (cc.z 0).2, .complex .f64 (cc.z 1).1 (cc.z 1).2, .int .u32 cc.pc] 28)) W3.heap.size cc from Blk.new W3 28 cc.arr)
  have HC4 := Lib.hid (show CpAt (W3.alloc (.cells #[.int .u32 (cc.r 0), .int .u32 (cc.r 1), .int .u32 (cc.r 2), .int .u32 (cc.r 3), .int .u32 (cc.r 4), .int .u32 (cc.r 5), .int .u32 (cc.r 6), .int .u32 (cc.r 7), .complex .f64 (cc.z 0).1 (cc.z 0).2, .complex .f64 (cc.z 1).1 (cc.z 1).2, .int .u32 cc.pc] 28)) gc cc from HC3.out.alloc (.cells #[.int .u32 (cc.r 0), .int .u32 (cc.r 1), .int .u32 (cc.r 2), .int .u32 (cc.r 3), .int .u32 (cc.r 4), .int .u32 (cc.r 5), .int .u32 (cc.r 6), .int .u32 (cc.r 7), .complex .f64 (cc.z 0).1 (cc.z 0).2, .complex .f64 (cc.z 1).1 (cc.z 1).2, .int .u32 cc.pc] 28))
  have HB4 := Lib.hid (bl_new HB3.out (.cells #[.int .u32 (cc.r 0), .int .u32 (cc.r 1), .int .u32 (cc.r 2), .int .u32 (cc.r 3), .int .u32 (cc.r 4), .int .u32 (cc.r 5), .int .u32 (cc.r 6), .int .u32 (cc.r 7), .complex .f64 (cc.z 0).1 (cc.z 0).2, .complex .f64 (cc.z 1).1 (cc.z 1).2, .int .u32 cc.pc] 28))
  have HGD := Lib.hid (show gc < W3.heap.size from HC3.out.lt)
  clear HB3 HC3
  generalize W3.alloc (.cells #[.int .u32 (cc.r 0), .int .u32 (cc.r 1), .int .u32 (cc.r 2), .int .u32 (cc.r 3), .int .u32 (cc.r 4), .int .u32 (cc.r 5), .int .u32 (cc.r 6), .int .u32 (cc.r 7), .complex .f64 (cc.z 0).1 (cc.z 0).2, .complex .f64 (cc.z 1).1 (cc.z 1).2, .int .u32 cc.pc] 28) = W4 at *
  generalize W3.heap.size = gd at *
  have HZ := Lib.hid (Blk.new W4 5 #[])
  have HBZ := Lib.hid (bl_new HB4.out (.cells #[] 5))
  have HBY := Lib.hid (bl_new (Below.refl W4.heap.size W4) (.cells #[] 5))
  have HGS := Lib.hid (show w.heap.size ≤ W4.heap.size from HB4.out.size)
  have hla2 : ma.length ≤ 1000000 := by omega
  go_wp2_with (first
    | (at_builtin; refine wpList_copy_bytes rfl _ _ rfl rfl HZ.out _ _ ma rfl (HBA.out.belowB HBZ.out) hla2 ?_; intro Bk ck W5 hrow5 hcap5 hBk5 hBkl5 hbw5
       have HB6 := Lib.hid (bl_new (HBZ.out.trans (hbw5.mono HGS.out)) (.cells #[.slice (some ⟨Bk, 0, none⟩) ma.length ck] 46))
       have HZ8 := Lib.hid (show Blk ((W5.alloc (.cells #[.slice (some ⟨Bk, 0, none⟩) ma.length ck] 46)).alloc (.cells #[] 5)) (W5.heap.size + 1) 5 #[] from by
         have h := Blk.new (W5.alloc (.cells #[.slice (some ⟨Bk, 0, none⟩) ma.length ck] 46)) 5 #[]
         rw [World.size_alloc] at h
         exact h)
       have HBZ8 := Lib.hid (bl_new HB6.out (.cells #[] 5)))
    | (at_builtin; refine wpList_copy_bytes rfl _ _ rfl rfl HZ8.out _ _ ma rfl (HBA.out.belowB HBZ8.out) hla2 ?_; intro Bl cl W8 hrow hcap hBk hBkl hbw; go_upto_region 7 with (fail)))
  have hnew := Blk.new W5 46 #[.slice (some ⟨Bk, 0, none⟩) ma.length ck]
  have hbn := bl_new (Below.refl W5.heap.size W5) (.cells #[.slice (some ⟨Bk, 0, none⟩) ma.length ck] 46)
  have hb45 := HBY.out.trans hbw5
  have hsz : (W5.alloc (.cells #[.slice (some ⟨Bk, 0, none⟩) ma.length ck] 46)).heap.size = W5.heap.size + 1 := World.size_alloc ..
  have hb68 : Below (W5.alloc (.cells #[.slice (some ⟨Bk, 0, none⟩) ma.length ck] 46)).heap.size (W5.alloc (.cells #[.slice (some ⟨Bk, 0, none⟩) ma.length ck] 46)) W8 := by
    have h1 := bl_new (Below.refl (W5.alloc (.cells #[.slice (some ⟨Bk, 0, none⟩) ma.length ck] 46)).heap.size (W5.alloc (.cells #[.slice (some ⟨Bk, 0, none⟩) ma.length ck] 46))) (.cells #[] 5)
    rw [hsz] at h1 ⊢
    exact h1.trans hbw
  have hc6 : CpAt (W5.alloc (.cells #[.slice (some ⟨Bk, 0, none⟩) ma.length ck] 46)) gc cc := (HC4.out.below hb45 HC4.out.lt).alloc (.cells #[.slice (some ⟨Bk, 0, none⟩) ma.length ck] 46)
  have hd6 : CpAt (W5.alloc (.cells #[.slice (some ⟨Bk, 0, none⟩) ma.length ck] 46)) gd cc := (HD4.out.below hb45 HD4.out.lt).alloc (.cells #[.slice (some ⟨Bk, 0, none⟩) ma.length ck] 46)
  have hm6 : RamAt (W5.alloc (.cells #[.slice (some ⟨Bk, 0, none⟩) ma.length ck] 46)) W5.heap.size (some ⟨Bk, 0, none⟩) Bk ck ma := ⟨hnew, hrow5.below hbn, hcap5, by omega, HLA.out, by omega⟩
  have HS8 := Lib.hid (show SI w gc gd W5.heap.size Bk ck Bl cl ma.length cc cc ma ma W8 from
    ⟨hc6.below hb68 hc6.lt, hd6.below hb68 hd6.lt, hm6.below hb68, ⟨hrow, hcap, HLA.out, by omega⟩, rfl, rfl, by have := hb68.size; omega, hBkl, HB6.out.trans (hb68.mono HB6.out.size)⟩)
  have HDJ := Lib.hid (show Dj w gc gd W5.heap.size Bk Bl from by
    have h1 := HGD.out
    have h2 := HD4.out.lt
    have h3 := HGC.out
    have h4 := hbw5.size
    constructor <;> omega)
  clear hrow5 hcap5 hBk5 hBkl5 hbw5 hnew hbn hb45 HC4 HD4 HB4 HZ HBZ HBY HGS HGD HGC hrow hcap hBk hBkl hbw hb68 hsz hc6 hd6 hm6 HB6 HZ8 HBZ8 hla2
  generalize W5.heap.size = g at *
  obtain ⟨q, hq⟩ : ∃ q : Int, many % 100 = q := ⟨_, rfl⟩
  have hq1 : q < 100 := by omega
  have hq2 : many.tmod 100 = q := by rw [Int.tmod_eq_emod_of_nonneg hy.1]; exact hq
  obtain ⟨hy0, hy1⟩ := hy
  clear hq
  generalize ma.length = N at *
  go_loopw [11] (fun i wr => ∃ (k : Nat) (cp : Cp) (m : List Int), i = .int .i64 (k : Int) ∧ k ≤ 100 ∧ cp.Ok ∧ (∀ x ∈ m, 0 ≤ x ∧ x ≤ 255) ∧ SI w gc gd g Bk ck Bl cl N cp cp m m wr) (fun i _ => 100 - (intOf i).toNat)
  case atStart => exact ⟨0, cc, ma, rfl, Nat.zero_le _, HOK.out, HLA.out, HS8.out⟩
  case round =>
    obtain ⟨k, cp, m, rfl, hk, hok, hlow, hsi⟩ := hrel
    clear HS8 HOK HLA HCPU HBA
    have SS := Lib.hid hsi
    have HOK := Lib.hid hok
    by_cases hkq : (k : Int) < q
    · obtain ⟨⟨at', lg, wb⟩, htp⟩ : ∃ x, touchP cp m = x := ⟨_, rfl⟩
      obtain ⟨⟨n, t, m1⟩, hst⟩ : ∃ x, stepP cp m = x := ⟨_, rfl⟩
      have HTP := Lib.hid htp
      have HST := Lib.hid hst
      have HN := Lib.hid (show n.Ok ∧ ∀ x ∈ m1, 0 ≤ x ∧ x ≤ 255 from by
        have h1 := step_ok hok hlow
        have h2 := step_low hok hlow
        rw [hst] at h1 h2
        exact ⟨h1, h2⟩)
      clear htp hst hsi hok hlow
      obtain ⟨x0, x1, x2, x3, x4, x5, x6, x7, x8, x9, x10, xlt⟩ := cp_all SS.out.cc
      go_wp2_with (fail)
      refine (touch7 HG.out SS.out HOK.out HTP.out).mono ?_
      rintro e W1 ⟨rfl, hs⟩
      have S1 := Lib.hid hs
      clear x0 x1 x2 x3 x4 x5 x6 x7 x8 x9 x10 xlt
      clear hs SS
      obtain ⟨x0, x1, x2, x3, x4, x5, x6, x7, x8, x9, x10, xlt⟩ := cp_all S1.out.dd
      go_wp2_with (fail)
      refine (refTouch7 S1.out HOK.out HTP.out).mono ?_
      rintro e W3 ⟨rfl, hs⟩
      have S3 := Lib.hid hs
      clear x0 x1 x2 x3 x4 x5 x6 x7 x8 x9 x10 xlt
      clear hs S1 HTP
      obtain ⟨x0, x1, x2, x3, x4, x5, x6, x7, x8, x9, x10, xlt⟩ := cp_all S3.out.cc
      go_wp2_with (fail)
      refine (step7 HG.out S3.out HDJ.out HOK.out HST.out).mono ?_
      rintro e W4 ⟨rfl, hs⟩
      have S4 := Lib.hid hs
      clear x0 x1 x2 x3 x4 x5 x6 x7 x8 x9 x10 xlt
      clear hs S3
      go_upto_region 13 with (fail)
      have HN5 := Lib.hid (show CpAt (W4.alloc (.cells #[.int .u32 (n.r 0), .int .u32 (n.r 1), .int .u32 (n.r 2), .int .u32 (n.r 3), .int .u32 (n.r 4), .int .u32 (n.r 5), .int .u32 (n.r 6), .int .u32 (n.r 7), .complex .f64 (n.z 0).1 (n.z 0).2, .complex .f64 (n.z 1).1 (n.z 1).2, .int .u32 n.pc] 28)) W4.heap.size n from Blk.new W4 28 n.arr)
      have S5 := Lib.hid (S4.out.below (bl_new (Below.refl W4.heap.size W4) (.cells #[.int .u32 (n.r 0), .int .u32 (n.r 1), .int .u32 (n.r 2), .int .u32 (n.r 3), .int .u32 (n.r 4), .int .u32 (n.r 5), .int .u32 (n.r 6), .int .u32 (n.r 7), .complex .f64 (n.z 0).1 (n.z 0).2, .complex .f64 (n.z 1).1 (n.z 1).2, .int .u32 n.pc] 28)))
      have HG5 := Lib.hid (show W4.heap.size ≠ Bl from by have := S4.out.zl; omega)
      clear S4
      generalize W4.alloc (.cells #[.int .u32 (n.r 0), .int .u32 (n.r 1), .int .u32 (n.r 2), .int .u32 (n.r 3), .int .u32 (n.r 4), .int .u32 (n.r 5), .int .u32 (n.r 6), .int .u32 (n.r 7), .complex .f64 (n.z 0).1 (n.z 0).2, .complex .f64 (n.z 1).1 (n.z 1).2, .int .u32 n.pc] 28) = W5 at *
      generalize W4.heap.size = gn at *
      obtain ⟨x0, x1, x2, x3, x4, x5, x6, x7, x8, x9, x10, xlt⟩ := cp_all S5.out.dd
      go_wp2_with (fail)
      refine (refStep7 S5.out HDJ.out HOK.out HST.out).mono ?_
      rintro e W6 ⟨rfl, hs, hb⟩
      have S6 := Lib.hid hs
      have HN6 := Lib.hid (show CpAt W6 gn n from HN5.out.but hb HG5.out)
      clear x0 x1 x2 x3 x4 x5 x6 x7 x8 x9 x10 xlt
      clear hs hb S5 HN5 HG5 HST HOK
      go_upto_region 14 with (fail)
      have SN7 := Lib.hid (show SN w gc gd g Bk ck Bl cl N cp cp m1 m1 gn W6.heap.size n n (W6.alloc (.cells #[.int .u32 (n.r 0), .int .u32 (n.r 1), .int .u32 (n.r 2), .int .u32 (n.r 3), .int .u32 (n.r 4), .int .u32 (n.r 5), .int .u32 (n.r 6), .int .u32 (n.r 7), .complex .f64 (n.z 0).1 (n.z 0).2, .complex .f64 (n.z 1).1 (n.z 1).2, .int .u32 n.pc] 28)) from
        ⟨S6.out.below (bl_new (Below.refl W6.heap.size W6) (.cells #[.int .u32 (n.r 0), .int .u32 (n.r 1), .int .u32 (n.r 2), .int .u32 (n.r 3), .int .u32 (n.r 4), .int .u32 (n.r 5), .int .u32 (n.r 6), .int .u32 (n.r 7), .complex .f64 (n.z 0).1 (n.z 0).2, .complex .f64 (n.z 1).1 (n.z 1).2, .int .u32 n.pc] 28)), HN6.out.alloc (.cells #[.int .u32 (n.r 0), .int .u32 (n.r 1), .int .u32 (n.r 2), .int .u32 (n.r 3), .int .u32 (n.r 4), .int .u32 (n.r 5), .int .u32 (n.r 6), .int .u32 (n.r 7), .complex .f64 (n.z 0).1 (n.z 0).2, .complex .f64 (n.z 1).1 (n.z 1).2, .int .u32 n.pc] 28), Blk.new W6 28 n.arr⟩)
      have HGP := Lib.hid (show gn < W6.heap.size ∧ gc < W6.heap.size ∧ gd < W6.heap.size from ⟨HN6.out.lt, S6.out.cc.lt, S6.out.dd.lt⟩)
      clear S6 HN6
      generalize W6.alloc (.cells #[.int .u32 (n.r 0), .int .u32 (n.r 1), .int .u32 (n.r 2), .int .u32 (n.r 3), .int .u32 (n.r 4), .int .u32 (n.r 5), .int .u32 (n.r 6), .int .u32 (n.r 7), .complex .f64 (n.z 0).1 (n.z 0).2, .complex .f64 (n.z 1).1 (n.z 1).2, .int .u32 n.pc] 28) = W7 at *
      generalize W6.heap.size = gp at *
      have HSAME := Lib.hid (fun W => same_lit n W)
      refine wp_region_held_drew (S := (fun W => SN w gc gd g Bk ck Bl cl N cp cp m1 m1 gn gp n n W)) (by kernel_rfl) (SN7.out.below (Below.refl _ _).drew) (fun hS => ?_)
      refine wpAnyH_take (i := 0) (v := ?_) rfl (by kernel_rfl) (by kernel_rfl) (by kernel_rfl) (fun _ _ _ h => h) (Or.inl ⟨by kernel_rfl, ?_⟩) hS ?_
      rotate_left 1
      · intro w hT
        go_simp
        all_goals with_reducible rfl
      refine wpAnyH_take (i := 1) (v := ?_) rfl (by kernel_rfl) (by kernel_rfl) (by kernel_rfl) (fun _ _ _ h => h) (Or.inl ⟨by kernel_rfl, ?_⟩) hS ?_
      rotate_left 1
      · intro w hT
        go_simp
        all_goals with_reducible rfl
      refine wpAnyH_take (i := 2) (v := ?_) rfl (by kernel_rfl) (by kernel_rfl) (by kernel_rfl) (fun _ _ _ h => h) (Or.inl ⟨by kernel_rfl, ?_⟩) hS ?_
      rotate_left 1
      · intro w hT
        go_simp
        all_goals with_reducible rfl
      refine wpAnyH_take (i := 3) (v := ?_) rfl (by kernel_rfl) (by kernel_rfl) (by kernel_rfl) (fun _ _ _ h => h) (Or.inl ⟨by kernel_rfl, ?_⟩) hS ?_
      rotate_left 1
      · intro w hT
        go_simp
        all_goals with_reducible rfl
      refine wpAnyH_take (i := 4) (v := ?_) rfl (by kernel_rfl) (by kernel_rfl) (by kernel_rfl) (fun _ _ _ h => h) (Or.inl ⟨by kernel_rfl, ?_⟩) hS ?_
      rotate_left 1
      · intro w hT
        go_simp
        all_goals with_reducible rfl
      refine wpAnyH_take (i := 5) (v := ?_) rfl (by kernel_rfl) (by kernel_rfl) (by kernel_rfl) (fun _ _ _ h => h) (Or.inl ⟨by kernel_rfl, ?_⟩) hS ?_
      rotate_left 1
      · intro w hT
        go_simp
        all_goals with_reducible rfl
      refine wpAnyH_take (i := 6) (v := ?_) rfl (by kernel_rfl) (by kernel_rfl) (by kernel_rfl) (fun _ _ _ h => h) (Or.inl ⟨by kernel_rfl, ?_⟩) hS ?_
      rotate_left 1
      · intro w hT
        go_simp
        all_goals with_reducible rfl
      refine wpAnyH_take (i := 7) (v := ?_) rfl (by kernel_rfl) (by kernel_rfl) (by kernel_rfl) (fun _ _ _ h => h) (Or.inl ⟨by kernel_rfl, ?_⟩) hS ?_
      rotate_left 1
      · intro w hT
        go_simp
        all_goals with_reducible rfl
      refine wpAnyH_take (i := 8) (v := ?_) rfl (by kernel_rfl) (by kernel_rfl) (by kernel_rfl) (fun _ _ _ h => h) (Or.inl ⟨by kernel_rfl, ?_⟩) hS ?_
      rotate_left 1
      · intro w hT
        go_simp
        all_goals with_reducible rfl
      refine wpAnyH_take (i := 9) (v := ?_) rfl (by kernel_rfl) (by kernel_rfl) (by kernel_rfl) (fun _ _ _ h => h) (Or.inl ⟨by kernel_rfl, ?_⟩) hS ?_
      rotate_left 1
      · intro w hT
        go_simp
        all_goals with_reducible rfl
      refine wpAnyH_take (i := 10) (v := ?_) rfl (by kernel_rfl) (by kernel_rfl) (by kernel_rfl) (fun _ _ _ h => h) (Or.inl ⟨by kernel_rfl, ?_⟩) hS ?_
      rotate_left 1
      · intro w hT
        go_simp
        all_goals with_reducible rfl
      refine wpAnyH_take (i := 11) (v := ?_) rfl (by kernel_rfl) (by kernel_rfl) (by kernel_rfl) (fun _ _ _ h => h) (Or.inl ⟨by kernel_rfl, ?_⟩) hS ?_
      rotate_left 1
      · intro w hT
        go_simp
        all_goals with_reducible rfl
      refine wpAnyH_take (i := 12) (v := ?_) rfl (by kernel_rfl) (by kernel_rfl) (by kernel_rfl) (fun _ _ _ h => h) (Or.inl ⟨by kernel_rfl, ?_⟩) hS ?_
      rotate_left 1
      · intro w hT
        go_simp
        all_goals with_reducible rfl
      refine wpAnyH_take (i := 13) (v := ?_) rfl (by kernel_rfl) (by kernel_rfl) (by kernel_rfl) (fun _ _ _ h => h) (Or.inl ⟨by kernel_rfl, ?_⟩) hS ?_
      rotate_left 1
      · intro w hT
        go_simp
        all_goals with_reducible rfl
      refine wpAnyH_take (i := 14) (v := ?_) rfl (by kernel_rfl) (by kernel_rfl) (by kernel_rfl) (fun _ _ _ h => h) (Or.inl ⟨by kernel_rfl, ?_⟩) hS ?_
      rotate_left 1
      · intro w hT
        go_simp
        all_goals with_reducible rfl
      refine wpAnyH_take (i := 15) (v := ?_) rfl (by kernel_rfl) (by kernel_rfl) (by kernel_rfl) (fun _ _ _ h => h) (Or.inl ⟨by kernel_rfl, ?_⟩) hS ?_
      rotate_left 1
      · intro w hT
        go_simp
        all_goals with_reducible rfl
      refine wpAnyH_take (i := 16) (v := ?_) rfl (by kernel_rfl) (by kernel_rfl) (by kernel_rfl) (fun _ _ _ h => h) (Or.inl ⟨by kernel_rfl, ?_⟩) hS ?_
      rotate_left 1
      · intro w hT
        go_simp
        all_goals with_reducible rfl
      refine wpAnyH_take (i := 17) (v := ?_) rfl (by kernel_rfl) (by kernel_rfl) (by kernel_rfl) (fun _ _ _ h => h) (Or.inl ⟨by kernel_rfl, ?_⟩) hS ?_
      rotate_left 1
      · intro w hT
        go_simp
        all_goals with_reducible rfl
      refine wpAnyH_take (i := 18) (v := ?_) rfl (by kernel_rfl) (by kernel_rfl) (by kernel_rfl) (fun _ _ _ h => h) (Or.inl ⟨by kernel_rfl, ?_⟩) hS ?_
      rotate_left 1
      · intro w hT
        go_simp
        all_goals with_reducible rfl
      refine wpAnyH_take (i := 19) (v := ?_) rfl (by kernel_rfl) (by kernel_rfl) (by kernel_rfl) (fun _ _ _ h => h) (Or.inl ⟨by kernel_rfl, ?_⟩) hS ?_
      rotate_left 1
      · intro w hT
        obtain ⟨x0, x1, x2, x3, x4, x5, x6, x7, x8, x9, x10, xlt⟩ := cp_all hT.nn
        go_simp
        all_goals with_reducible rfl
      refine wpAnyH_take (i := 20) (v := ?_) rfl (by kernel_rfl) (by kernel_rfl) (by kernel_rfl) (fun _ _ _ h => h) (Or.inl ⟨by kernel_rfl, ?_⟩) hS ?_
      rotate_left 1
      · intro w hT
        obtain ⟨x0, x1, x2, x3, x4, x5, x6, x7, x8, x9, x10, xlt⟩ := cp_all hT.pp
        go_simp
        all_goals with_reducible rfl
      refine wpAnyH_ready (rs := [21]) (by kernel_rfl) (by simp) ?_
      refine AllReadyH.cons rfl (fun K hK => ?_) AllReadyH.nil
      go_simp
      refine (HSAME.out _).mono ?_
      rintro e Wb ⟨rfl, hbb⟩
      refine hK.out _ _ (hS.below hbb) (fun hS => ?_)
      clear hK K
      refine wpAnyH_take (i := 22) (v := ?_) rfl (by kernel_rfl) (by kernel_rfl) (by kernel_rfl) (fun _ _ _ h => h) (Or.inl ⟨by kernel_rfl, ?_⟩) hS ?_
      rotate_left 1
      · intro w hT
        go_simp
        all_goals with_reducible rfl
      refine wpAnyH_take (i := 23) (v := ?_) rfl (by kernel_rfl) (by kernel_rfl) (by kernel_rfl) (fun _ _ _ h => h) (Or.inl ⟨by kernel_rfl, ?_⟩) hS ?_
      rotate_left 1
      · intro w hT
        go_simp
        all_goals with_reducible rfl
      refine wpAnyH_take (i := 24) (v := ?_) rfl (by kernel_rfl) (by kernel_rfl) (by kernel_rfl) (fun _ _ _ h => h) (Or.inl ⟨by kernel_rfl, ?_⟩) hS ?_
      rotate_left 1
      · intro w hT
        go_simp
        all_goals with_reducible rfl
      refine wpAnyH_take (i := 25) (v := ?_) rfl (by kernel_rfl) (by kernel_rfl) (by kernel_rfl) (fun _ _ _ h => h) (Or.inl ⟨by kernel_rfl, ?_⟩) hS ?_
      rotate_left 1
      · intro w hT
        go_simp
        all_goals with_reducible rfl
      refine wpAnyH_take (i := 26) (v := ?_) rfl (by kernel_rfl) (by kernel_rfl) (by kernel_rfl) (fun _ _ _ h => h) (Or.inl ⟨by kernel_rfl, ?_⟩) hS ?_
      rotate_left 1
      · intro w hT
        have glt := hT.si.m.p.lt
        go_simp
        all_goals with_reducible rfl
      refine wpAnyH_take (i := 27) (v := ?_) rfl (by kernel_rfl) (by kernel_rfl) (by kernel_rfl) (fun _ _ _ h => h) (Or.inl ⟨by kernel_rfl, ?_⟩) hS ?_
      rotate_left 1
      · intro w hT
        have glt := hT.si.m.p.lt
        go_simp
        all_goals with_reducible rfl
      refine wpAnyH_take (i := 28) (v := ?_) rfl (by kernel_rfl) (by kernel_rfl) (by kernel_rfl) (fun _ _ _ h => h) (Or.inl ⟨by kernel_rfl, ?_⟩) hS ?_
      rotate_left 1
      · intro w hT
        have g0 := hT.si.m.p.cell 0
        have glt := hT.si.m.p.lt
        rw [hT.si.lm] at g0
        simp only [List.getElem?_toArray, List.getElem?_cons_zero] at g0
        go_simp
        all_goals with_reducible rfl
      refine wpAnyH_take (i := 29) (v := ?_) rfl (by kernel_rfl) (by kernel_rfl) (by kernel_rfl) (fun _ _ _ h => h) (Or.inl ⟨by kernel_rfl, ?_⟩) hS ?_
      rotate_left 1
      · intro w hT
        have hv := conv7 (ram_bytes hT.si.m) ck
        rw [hT.si.lm] at hv
        go_simp
        all_goals with_reducible rfl
      refine wpAnyH_take (i := 30) (v := ?_) rfl (by kernel_rfl) (by kernel_rfl) (by kernel_rfl) (fun _ _ _ h => h) (Or.inl ⟨by kernel_rfl, ?_⟩) hS ?_
      rotate_left 1
      · intro w hT
        go_simp
        all_goals with_reducible rfl
      refine wpAnyH_take (i := 31) (v := ?_) rfl (by kernel_rfl) (by kernel_rfl) (by kernel_rfl) (fun _ _ _ h => h) (Or.inl ⟨by kernel_rfl, ?_⟩) hS ?_
      rotate_left 1
      · intro w hT
        have hv := conv7 (byin_bytes hT.si.l) cl
        rw [hT.si.ll] at hv
        go_simp
        all_goals with_reducible rfl
      refine wpAnyH_take (i := 32) (v := ?_) rfl (by kernel_rfl) (by kernel_rfl) (by kernel_rfl) (fun _ _ _ h => h) (Or.inl ⟨by kernel_rfl, ?_⟩) hS ?_
      rotate_left 1
      · intro w hT
        go_simp
        all_goals with_reducible rfl
      refine wpAnyH_take (i := 33) (v := ?_) rfl (by kernel_rfl) (by kernel_rfl) (by kernel_rfl) (fun _ _ _ h => h) (Or.inl ⟨by kernel_rfl, ?_⟩) hS ?_
      rotate_left 1
      · intro w hT
        go_simp
        all_goals with_reducible rfl
      refine wpAnyH_done (by kernel_rfl) ?_ _
      have SZ := Lib.hid hS
      clear hS SN7 HSAME
      go_simp
      by_cases ht : t = 0
      · subst ht
        go_upto_region 17 with (fail)
        obtain ⟨x0, x1, x2, x3, x4, x5, x6, x7, x8, x9, x10, xlt⟩ := cp_all SZ.out.nn
        obtain ⟨y0, y1, y2, y3, y4, y5, y6, y7, y8, y9, y10, ylt⟩ := cp_all SZ.out.si.cc
        have yf0 := (SZ.out.si.cc).frozen 0
        have yf1 := (SZ.out.si.cc).frozen 1
        have yf2 := (SZ.out.si.cc).frozen 2
        have yf3 := (SZ.out.si.cc).frozen 3
        have yf4 := (SZ.out.si.cc).frozen 4
        have yf5 := (SZ.out.si.cc).frozen 5
        have yf6 := (SZ.out.si.cc).frozen 6
        have yf7 := (SZ.out.si.cc).frozen 7
        have yf8 := (SZ.out.si.cc).frozen 8
        have yf9 := (SZ.out.si.cc).frozen 9
        have yf10 := (SZ.out.si.cc).frozen 10
        go_upto_region 18 with (fail)
        have hbt := set11_but (S := fun k => k = gc) (g := gc) (But.refl _ Wb) (.inl rfl) (.int .u32 (n.r 0)) (.int .u32 (n.r 1)) (.int .u32 (n.r 2)) (.int .u32 (n.r 3)) (.int .u32 (n.r 4)) (.int .u32 (n.r 5)) (.int .u32 (n.r 6)) (.int .u32 (n.r 7)) (.complex .f64 (n.z 0).1 (n.z 0).2) (.complex .f64 (n.z 1).1 (n.z 1).2) (.int .u32 n.pc)
        have HS9 := Lib.hid (show SI w gc gd g Bk ck Bl cl N n cp m1 m1 (((((((((((Wb.setCell ⟨gc, 0, none⟩ (.int .u32 (n.r 0))).setCell ⟨gc, 1, none⟩ (.int .u32 (n.r 1))).setCell ⟨gc, 2, none⟩ (.int .u32 (n.r 2))).setCell ⟨gc, 3, none⟩ (.int .u32 (n.r 3))).setCell ⟨gc, 4, none⟩ (.int .u32 (n.r 4))).setCell ⟨gc, 5, none⟩ (.int .u32 (n.r 5))).setCell ⟨gc, 6, none⟩ (.int .u32 (n.r 6))).setCell ⟨gc, 7, none⟩ (.int .u32 (n.r 7))).setCell ⟨gc, 8, none⟩ (.complex .f64 (n.z 0).1 (n.z 0).2)).setCell ⟨gc, 9, none⟩ (.complex .f64 (n.z 1).1 (n.z 1).2)).setCell ⟨gc, 10, none⟩ (.int .u32 n.pc)) from
          SZ.out.si.putC HDJ.out (set11_blk (show Blk Wb gc 28 #[.int .u32 (cp.r 0), .int .u32 (cp.r 1), .int .u32 (cp.r 2), .int .u32 (cp.r 3), .int .u32 (cp.r 4), .int .u32 (cp.r 5), .int .u32 (cp.r 6), .int .u32 (cp.r 7), .complex .f64 (cp.z 0).1 (cp.z 0).2, .complex .f64 (cp.z 1).1 (cp.z 1).2, .int .u32 cp.pc] from SZ.out.si.cc) (.int .u32 (n.r 0)) (.int .u32 (n.r 1)) (.int .u32 (n.r 2)) (.int .u32 (n.r 3)) (.int .u32 (n.r 4)) (.int .u32 (n.r 5)) (.int .u32 (n.r 6)) (.int .u32 (n.r 7)) (.complex .f64 (n.z 0).1 (n.z 0).2) (.complex .f64 (n.z 1).1 (n.z 1).2) (.int .u32 n.pc)) hbt)
        have HP9 := Lib.hid (show CpAt (((((((((((Wb.setCell ⟨gc, 0, none⟩ (.int .u32 (n.r 0))).setCell ⟨gc, 1, none⟩ (.int .u32 (n.r 1))).setCell ⟨gc, 2, none⟩ (.int .u32 (n.r 2))).setCell ⟨gc, 3, none⟩ (.int .u32 (n.r 3))).setCell ⟨gc, 4, none⟩ (.int .u32 (n.r 4))).setCell ⟨gc, 5, none⟩ (.int .u32 (n.r 5))).setCell ⟨gc, 6, none⟩ (.int .u32 (n.r 6))).setCell ⟨gc, 7, none⟩ (.int .u32 (n.r 7))).setCell ⟨gc, 8, none⟩ (.complex .f64 (n.z 0).1 (n.z 0).2)).setCell ⟨gc, 9, none⟩ (.complex .f64 (n.z 1).1 (n.z 1).2)).setCell ⟨gc, 10, none⟩ (.int .u32 n.pc)) gp n from
          SZ.out.pp.but hbt (fun e : gp = gc => by have := HGP.out; omega))
        clear x0 x1 x2 x3 x4 x5 x6 x7 x8 x9 x10 xlt
        clear y0 y1 y2 y3 y4 y5 y6 y7 y8 y9 y10 ylt yf0 yf1 yf2 yf3 yf4 yf5 yf6 yf7 yf8 yf9 yf10
        clear hbt SZ
        generalize ((((((((((Wb.setCell ⟨gc, 0, none⟩ (.int .u32 (n.r 0))).setCell ⟨gc, 1, none⟩ (.int .u32 (n.r 1))).setCell ⟨gc, 2, none⟩ (.int .u32 (n.r 2))).setCell ⟨gc, 3, none⟩ (.int .u32 (n.r 3))).setCell ⟨gc, 4, none⟩ (.int .u32 (n.r 4))).setCell ⟨gc, 5, none⟩ (.int .u32 (n.r 5))).setCell ⟨gc, 6, none⟩ (.int .u32 (n.r 6))).setCell ⟨gc, 7, none⟩ (.int .u32 (n.r 7))).setCell ⟨gc, 8, none⟩ (.complex .f64 (n.z 0).1 (n.z 0).2)).setCell ⟨gc, 9, none⟩ (.complex .f64 (n.z 1).1 (n.z 1).2)).setCell ⟨gc, 10, none⟩ (.int .u32 n.pc) = W9 at *
        obtain ⟨x0, x1, x2, x3, x4, x5, x6, x7, x8, x9, x10, xlt⟩ := cp_all HP9.out
        obtain ⟨y0, y1, y2, y3, y4, y5, y6, y7, y8, y9, y10, ylt⟩ := cp_all HS9.out.dd
        have yf0 := (HS9.out.dd).frozen 0
        have yf1 := (HS9.out.dd).frozen 1
        have yf2 := (HS9.out.dd).frozen 2
        have yf3 := (HS9.out.dd).frozen 3
        have yf4 := (HS9.out.dd).frozen 4
        have yf5 := (HS9.out.dd).frozen 5
        have yf6 := (HS9.out.dd).frozen 6
        have yf7 := (HS9.out.dd).frozen 7
        have yf8 := (HS9.out.dd).frozen 8
        have yf9 := (HS9.out.dd).frozen 9
        have yf10 := (HS9.out.dd).frozen 10
        go_wp2_with (fail)
        exact ⟨⟨k + 1, n, m1, by simp, by omega, HN.out.1, HN.out.2, HS9.out.putD HDJ.out (set11_blk (show Blk W9 gd 28 #[.int .u32 (cp.r 0), .int .u32 (cp.r 1), .int .u32 (cp.r 2), .int .u32 (cp.r 3), .int .u32 (cp.r 4), .int .u32 (cp.r 5), .int .u32 (cp.r 6), .int .u32 (cp.r 7), .complex .f64 (cp.z 0).1 (cp.z 0).2, .complex .f64 (cp.z 1).1 (cp.z 1).2, .int .u32 cp.pc] from HS9.out.dd) (.int .u32 (n.r 0)) (.int .u32 (n.r 1)) (.int .u32 (n.r 2)) (.int .u32 (n.r 3)) (.int .u32 (n.r 4)) (.int .u32 (n.r 5)) (.int .u32 (n.r 6)) (.int .u32 (n.r 7)) (.complex .f64 (n.z 0).1 (n.z 0).2) (.complex .f64 (n.z 1).1 (n.z 1).2) (.int .u32 n.pc)) (set11_but (S := fun k => k = gd) (g := gd) (But.refl _ W9) (.inl rfl) (.int .u32 (n.r 0)) (.int .u32 (n.r 1)) (.int .u32 (n.r 2)) (.int .u32 (n.r 3)) (.int .u32 (n.r 4)) (.int .u32 (n.r 5)) (.int .u32 (n.r 6)) (.int .u32 (n.r 7)) (.complex .f64 (n.z 0).1 (n.z 0).2) (.complex .f64 (n.z 1).1 (n.z 1).2) (.int .u32 n.pc))⟩, by simp [intOf]; omega⟩
      · go_wp2
        go_ret
        exact ⟨rfl, SZ.out.si.b⟩
    · go_wp2
      go_ret
      exact ⟨rfl, SS.out.b⟩
end Go.Proofs.YtoglmemmdolbmaaDoor
