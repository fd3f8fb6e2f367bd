/-
  What an instruction on Gaussian registers does, walked. Condition: a Cpu and a memory lie in blocks of their own; the instruction is one of them.
-/
import Derived.Deep.RegionHeld3
import Derived.Test.YtoglmemmdolbmaaDoorCo5
import Derived.Test.YtoglmemmdolbmaaDoorGaw
namespace Go.Proofs.YtoglmemmdolbmaaDoor
open Go.RowKit
set_option linter.unusedVariables false
set_option linter.unusedSimpArgs false
attribute [local go_sem] Oper.semAt_some
attribute [local irreducible] floatOfInt wz

theorem run_store_complex {P : Program} {w : World} {a : Addr} {m : Mode} (k : FloatKind) (x y : Nat) : (store a (.complex k x y) m).run P w = stored P w a (.complex k x y) m := run_store P w a _ m rfl
attribute [local go_sem] run_store_complex
theorem moved_z {w W : World} {gc g : Nat} {A : Option Addr} {B cap : Nat} {c : Cp} {m : List Int} (hC : CpAt W gc c) (hM : RamAt W g A B cap m) (hB : Below w.heap.size w W) (hcg : gc ≠ g) (hcB : gc ≠ B) {a : Nat} (ha : a < 2) (v : Nat × Nat) : Moved w (W.setCell ⟨gc, 8 + a, none⟩ (.complex .f64 v.1 v.2)) gc g A B cap (c.setZ a v) m := by
  have hbut : But (fun k => k = gc) W (W.setCell ⟨gc, 8 + a, none⟩ (.complex .f64 v.1 v.2)) := But.setCell (S := fun k => k = gc) (But.refl _ _) (p := ⟨gc, 8 + a, none⟩) (.inl rfl) _
  refine ⟨?_, hM.but hbut (fun h => hcg h.symm) (fun h => hcB h.symm), (But.of_below hB).setCell (S := SM gc B) (p := ⟨gc, 8 + a, none⟩) (.inl (.inl rfl)) _⟩
  have h := hC.set_ (8 + a) (.complex .f64 v.1 v.2)
  rw [arr_setZ c ha v] at h
  exact h
theorem Moved.drew {w W : World} {gc g : Nat} {A : Option Addr} {B cap : Nat} {c : Cp} {m : List Int} (h : Moved w W gc g A B cap c m) : Moved w W.drew gc g A B cap c m :=
  ⟨h.c.drew, h.m.but (S := fun _ => False) (But.refl _ W).drew (fun h => h) (fun h => h), h.b.drew⟩
noncomputable def zmk (p q : Int) : Nat × Nat := (floatOfInt .f64 (wz p), floatOfInt .f64 (wz q))
theorem mk_zmk (p q : Int) : mk p q = .complex .f64 (zmk p q).1 (zmk p q).2 := rfl
noncomputable def zre (z : Nat × Nat) : Int := re z.1 z.2
noncomputable def zim (z : Nat × Nat) : Int := im z.1 z.2
/-- The registers behind an instruction on Gaussian ones. -/
noncomputable def wholeP (c : Cp) (op : Int) (a b : Nat) : Cp :=
  if op = 25 then c.setZ a (zmk (wrap32 (c.r b)) (wrap32 (c.r (b + 1))))
  else if op = 26 then (c.setR b (zre (c.z a) % 4294967296)).setR (b + 1) (zim (c.z a) % 4294967296)
  else if op = 27 then c.setZ a (zmk (zre (c.z a) + zre (c.z b)) (zim (c.z a) + zim (c.z b)))
  else if op = 28 then c.setZ a (zmk (zre (c.z a) * zre (c.z b) - zim (c.z a) * zim (c.z b)) (zre (c.z a) * zim (c.z b) + zim (c.z a) * zre (c.z b)))
  else c.setZ a (zmk (zre (c.z a)) (-zim (c.z a)))

set_option maxRecDepth 100000 in
set_option maxHeartbeats 16000000 in
theorem conj_any {w : World} {gc g : Nat} {A : Option Addr} {B cap : Nat} {c : Cp} {m : List Int} (hC : CpAt w gc c) (hM : RamAt w g A B cap m) (hcg : gc ≠ g) (hcB : gc ≠ B) (hc : c.Ok) (imm : Int) (a b : Nat) (ha : a < 2) :
    Calls Tryd.prog 35 #[.agg #[.int .i64 29, .int .i64 (a : Int), .int .i64 (b : Int), .int .i64 imm], .pointer (some ⟨gc, 0, none⟩)] w fun e w' => e = .returned (.tuple #[]) ∧ Moved w w' gc g A B cap (wholeP c 29 a b) m := by
  have hb0 := bl_new (Below.refl w.heap.size w) (.cells #[.int .i64 29, .int .i64 (a : Int), .int .i64 (b : Int), .int .i64 imm] 38)
  have hX := Blk.new w 38 #[.int .i64 29, .int .i64 (a : Int), .int .i64 (b : Int), .int .i64 imm]
  have hC1 := hC.alloc (.cells #[.int .i64 29, .int .i64 (a : Int), .int .i64 (b : Int), .int .i64 imm] 38)
  have HM1 := Lib.hid (hM.below hb0)
  have HC1 := Lib.hid hC1
  have HB1 := Lib.hid hb0
  have HX1 := Lib.hid hX
  have hab : (a : Int) < 2 := by omega
  clear hM hb0
  have hp : wholeP c 29 a b = c.setZ a (zmk (zre (c.z a)) (-zim (c.z a))) := by unfold wholeP; simp
  rw [hp]
  clear hp
  have hza := cp_z hC1 ha
  obtain ⟨z1, z2, hz⟩ : ∃ z1 z2, c.z a = (z1, z2) := ⟨_, _, rfl⟩
  rw [hz] at hza ⊢
  have HZ := Lib.hid hz
  clear hz
  generalize hW1 : w.alloc (.cells #[.int .i64 29, .int .i64 (a : Int), .int .i64 (b : Int), .int .i64 imm] 38) = W1 at *
  have HRF := Lib.hid (Below.refl W1.heap.size W1)
  have HNE := Lib.hid (show w.heap.size ≠ gc from by have := hC.lt; omega)
  have HCF := Lib.hid (fun W (hW : Below W1.heap.size W1 W) => show CpAt W gc c from HC1.out.below hW HC1.out.lt)
  have HXX := Lib.hid (fun W (hW : Below W1.heap.size W1 W) => show W.cell? ⟨w.heap.size, 1, none⟩ = some (.int .i64 (a : Int)) ∧ W.cell? ⟨w.heap.size, 2, none⟩ = some (.int .i64 (b : Int)) from ⟨(ccells (HX1.out.below hW HX1.out.lt)).2.1, (ccells (HX1.out.below hW HX1.out.lt)).2.2.1⟩)
  obtain ⟨c0, c1, c2, c3, clt⟩ := ccells hX
  have hltc := hC1.lt
  clear hX hC1 hC
  obtain ⟨r1, r2, hr⟩ : ∃ r1 r2, zmk (zre (z1, z2)) (-zim (z1, z2)) = (r1, r2) := ⟨_, _, rfl⟩
  rw [hr]
  have HJ := Lib.hid (fun W (hW : Below W1.heap.size W1 W) => show Calls Tryd.prog 58 #[.complex .f64 z1 z2] W fun e w' => e = .returned (.complex .f64 r1 r2) ∧ Below W1.heap.size W1 w' from (gConj_any (w := W) z1 z2).mono fun e w' h => ⟨by rw [h.1, show mk (re z1 z2) (-im z1 z2) = .complex .f64 (zmk (zre (z1, z2)) (-zim (z1, z2))).1 (zmk (zre (z1, z2)) (-zim (z1, z2))).2 from rfl, hr], bl_step hW h.2⟩)
  clear hr
  go_enter Tryd.func35, Tryd.ntmps35
  go_wp2_with fail
  try rw [hW1]
  clear hW1
  refine wp_region_held_drew (S := (fun W => W.cell? ⟨w.heap.size, 1, none⟩ = some (.int .i64 (a : Int)) ∧ W.cell? ⟨w.heap.size, 2, none⟩ = some (.int .i64 (b : Int)))) (by kernel_rfl) (HXX.out _ HRF.out.drew) (fun hS => ?_)
  refine wpAnyH_take (i := 0) (v := ?_) rfl (by kernel_rfl) (by kernel_rfl) (by kernel_rfl) (fun _ _ _ h => h) (Or.inl ⟨by kernel_rfl, ?_⟩) hS ?_
  rotate_left 1
  · rintro w ⟨h1, h2⟩
    go_simp
    all_goals with_reducible rfl
  refine wpAnyH_take (i := 1) (v := ?_) rfl (by kernel_rfl) (by kernel_rfl) (by kernel_rfl) (fun _ _ _ h => h) (Or.inl ⟨by kernel_rfl, ?_⟩) hS ?_
  rotate_left 1
  · rintro w ⟨h1, h2⟩
    go_simp
    all_goals with_reducible rfl
  refine wpAnyH_take (i := 2) (v := ?_) rfl (by kernel_rfl) (by kernel_rfl) (by kernel_rfl) (fun _ _ _ h => h) (Or.inl ⟨by kernel_rfl, ?_⟩) hS ?_
  rotate_left 1
  · rintro w ⟨h1, h2⟩
    go_simp
    all_goals with_reducible rfl
  refine wpAnyH_take (i := 3) (v := ?_) rfl (by kernel_rfl) (by kernel_rfl) (by kernel_rfl) (fun _ _ _ h => h) (Or.inl ⟨by kernel_rfl, ?_⟩) hS ?_
  rotate_left 1
  · rintro w ⟨h1, h2⟩
    go_simp
    all_goals with_reducible rfl
  refine wpAnyH_take (i := 4) (v := ?_) rfl (by kernel_rfl) (by kernel_rfl) (by kernel_rfl) (fun _ _ _ h => h) (Or.inl ⟨by kernel_rfl, ?_⟩) hS ?_
  rotate_left 1
  · rintro w ⟨h1, h2⟩
    go_simp
    all_goals with_reducible rfl
  refine wpAnyH_take (i := 5) (v := ?_) rfl (by kernel_rfl) (by kernel_rfl) (by kernel_rfl) (fun _ _ _ h => h) (Or.inl ⟨by kernel_rfl, ?_⟩) hS ?_
  rotate_left 1
  · rintro w ⟨h1, h2⟩
    go_simp
    all_goals with_reducible rfl
  refine wpAnyH_take (i := 6) (v := ?_) rfl (by kernel_rfl) (by kernel_rfl) (by kernel_rfl) (fun _ _ _ h => h) (Or.inl ⟨by kernel_rfl, ?_⟩) hS ?_
  rotate_left 1
  · rintro w ⟨h1, h2⟩
    go_simp
    all_goals with_reducible rfl
  refine wpAnyH_take (i := 7) (v := ?_) rfl (by kernel_rfl) (by kernel_rfl) (by kernel_rfl) (fun _ _ _ h => h) (Or.inl ⟨by kernel_rfl, ?_⟩) hS ?_
  rotate_left 1
  · rintro w ⟨h1, h2⟩
    go_simp
    all_goals with_reducible rfl
  refine wpAnyH_take (i := 8) (v := ?_) rfl (by kernel_rfl) (by kernel_rfl) (by kernel_rfl) (fun _ _ _ h => h) (Or.inl ⟨by kernel_rfl, ?_⟩) hS ?_
  rotate_left 1
  · rintro w ⟨h1, h2⟩
    go_simp
    all_goals with_reducible rfl
  refine wpAnyH_take (i := 11) (v := ?_) rfl (by kernel_rfl) (by kernel_rfl) (by kernel_rfl) (fun _ _ _ h => h) (Or.inl ⟨by kernel_rfl, ?_⟩) hS ?_
  rotate_left 1
  · rintro w ⟨h1, h2⟩
    go_simp
    all_goals with_reducible rfl
  refine wpAnyH_take (i := 12) (v := ?_) rfl (by kernel_rfl) (by kernel_rfl) (by kernel_rfl) (fun _ _ _ h => h) (Or.inl ⟨by kernel_rfl, ?_⟩) hS ?_
  rotate_left 1
  · rintro w ⟨h1, h2⟩
    go_simp
    all_goals with_reducible rfl
  have hcl := cp_z (HCF.out _ HRF.out.drew) ha
  rw [HZ.out] at hcl
  refine wpAnyH_ready (rs := [9]) (by kernel_rfl) (by simp) ?_
  refine AllReadyH.cons rfl (fun K hK => ?_) AllReadyH.nil
  go_simp
  refine hK.out _ _ (hS) (fun hS => ?_)
  clear hK K
  refine wpAnyH_ready (rs := [10]) (by kernel_rfl) (by simp) ?_
  refine AllReadyH.cons rfl (fun K hK => ?_) AllReadyH.nil
  go_simp
  refine (HJ.out _ HRF.out.drew).mono ?_
  rintro e W6 ⟨rfl, hW6⟩
  refine hK.out _ _ (HXX.out _ hW6) (fun hS => ?_)
  clear hK K
  refine wpAnyH_take (i := 13) (v := ?_) rfl (by kernel_rfl) (by kernel_rfl) (by kernel_rfl) (fun _ _ _ h => h) (Or.inl ⟨by kernel_rfl, ?_⟩) hS ?_
  rotate_left 1
  · rintro w ⟨h1, h2⟩
    go_simp
    all_goals with_reducible rfl
  have hcf6 := cp_z (HCF.out _ hW6) ha
  have hff6 := (HCF.out _ hW6).frozen (8 + a)
  have hlf6 := (HCF.out _ hW6).lt
  refine wpAnyH_ready (rs := [14]) (by kernel_rfl) (by simp) ?_
  refine AllReadyH.cons rfl (fun K hK => ?_) AllReadyH.nil
  go_simp
  refine hK.out _ _ (⟨(World.cell?_setCell_far W6 ⟨gc, 8 + a, none⟩ ⟨w.heap.size, 1, none⟩ _ (fun h => HNE.out h.symm)).trans hS.1, (World.cell?_setCell_far W6 ⟨gc, 8 + a, none⟩ ⟨w.heap.size, 2, none⟩ _ (fun h => HNE.out h.symm)).trans hS.2⟩) (fun hS => ?_)
  clear hK K
  refine wpAnyH_done (by kernel_rfl) ?_ _
  go_wp2
  exact bodyPost_end (results_none rfl _ _ _) rfl ⟨rfl, moved_z (HC1.out.below hW6 HC1.out.lt) (HM1.out.below hW6) (bl_step HB1.out hW6) hcg hcB ha (r1, r2)⟩

set_option maxRecDepth 100000 in
set_option maxHeartbeats 16000000 in
theorem zadd_any {w : World} {gc g : Nat} {A : Option Addr} {B cap : Nat} {c : Cp} {m : List Int} (hC : CpAt w gc c) (hM : RamAt w g A B cap m) (hcg : gc ≠ g) (hcB : gc ≠ B) (hc : c.Ok) (imm : Int) (a b : Nat) (ha : a < 2) (hb : b < 2) :
    Calls Tryd.prog 35 #[.agg #[.int .i64 27, .int .i64 (a : Int), .int .i64 (b : Int), .int .i64 imm], .pointer (some ⟨gc, 0, none⟩)] w fun e w' => e = .returned (.tuple #[]) ∧ Moved w w' gc g A B cap (wholeP c 27 a b) m := by
  have hb0 := bl_new (Below.refl w.heap.size w) (.cells #[.int .i64 27, .int .i64 (a : Int), .int .i64 (b : Int), .int .i64 imm] 38)
  have hX := Blk.new w 38 #[.int .i64 27, .int .i64 (a : Int), .int .i64 (b : Int), .int .i64 imm]
  have hC1 := hC.alloc (.cells #[.int .i64 27, .int .i64 (a : Int), .int .i64 (b : Int), .int .i64 imm] 38)
  have HM1 := Lib.hid (hM.below hb0)
  have HC1 := Lib.hid hC1
  have HB1 := Lib.hid hb0
  have HX1 := Lib.hid hX
  have hab : (a : Int) < 2 := by omega
  clear hM hb0
  have hp : wholeP c 27 a b = c.setZ a (zmk (zre (c.z a) + zre (c.z b)) (zim (c.z a) + zim (c.z b))) := by unfold wholeP; simp
  rw [hp]
  clear hp
  have hza := cp_z hC1 ha
  have hzb := cp_z hC1 hb
  obtain ⟨z1, z2, hz⟩ : ∃ z1 z2, c.z a = (z1, z2) := ⟨_, _, rfl⟩
  obtain ⟨y1, y2, hy⟩ : ∃ y1 y2, c.z b = (y1, y2) := ⟨_, _, rfl⟩
  rw [hz, hy]
  have HZ := Lib.hid hz
  have HY := Lib.hid hy
  have hbb : (b : Int) < 2 := by omega
  clear hz hy hza hzb
  generalize hW1 : w.alloc (.cells #[.int .i64 27, .int .i64 (a : Int), .int .i64 (b : Int), .int .i64 imm] 38) = W1 at *
  have HRF := Lib.hid (Below.refl W1.heap.size W1)
  have HNE := Lib.hid (show w.heap.size ≠ gc from by have := hC.lt; omega)
  have HCF := Lib.hid (fun W (hW : Below W1.heap.size W1 W) => show CpAt W gc c from HC1.out.below hW HC1.out.lt)
  have HXX := Lib.hid (fun W (hW : Below W1.heap.size W1 W) => show W.cell? ⟨w.heap.size, 1, none⟩ = some (.int .i64 (a : Int)) ∧ W.cell? ⟨w.heap.size, 2, none⟩ = some (.int .i64 (b : Int)) from ⟨(ccells (HX1.out.below hW HX1.out.lt)).2.1, (ccells (HX1.out.below hW HX1.out.lt)).2.2.1⟩)
  obtain ⟨c0, c1, c2, c3, clt⟩ := ccells hX
  have hltc := hC1.lt
  clear hX hC1 hC
  obtain ⟨r1, r2, hr⟩ : ∃ r1 r2, zmk (zre ((z1, z2)) + zre ((y1, y2))) (zim ((z1, z2)) + zim ((y1, y2))) = (r1, r2) := ⟨_, _, rfl⟩
  rw [hr]
  have HJ := Lib.hid (fun W (hW : Below W1.heap.size W1 W) => show Calls Tryd.prog 56 #[.complex .f64 z1 z2, .complex .f64 y1 y2] W fun e w' => e = .returned (.complex .f64 r1 r2) ∧ Below W1.heap.size W1 w' from (gAdd_any (w := W) z1 z2 y1 y2).mono fun e w' h => ⟨by rw [h.1, show mk (re z1 z2 + re y1 y2) (im z1 z2 + im y1 y2) = .complex .f64 (zmk (zre ((z1, z2)) + zre ((y1, y2))) (zim ((z1, z2)) + zim ((y1, y2)))).1 (zmk (zre ((z1, z2)) + zre ((y1, y2))) (zim ((z1, z2)) + zim ((y1, y2)))).2 from rfl, hr], bl_step hW h.2⟩)
  clear hr
  go_enter Tryd.func35, Tryd.ntmps35
  go_wp2_with fail
  try rw [hW1]
  clear hW1
  refine wp_region_held_drew (S := (fun W => W.cell? ⟨w.heap.size, 1, none⟩ = some (.int .i64 (a : Int)) ∧ W.cell? ⟨w.heap.size, 2, none⟩ = some (.int .i64 (b : Int)))) (by kernel_rfl) (HXX.out _ HRF.out.drew) (fun hS => ?_)
  refine wpAnyH_take (i := 0) (v := ?_) rfl (by kernel_rfl) (by kernel_rfl) (by kernel_rfl) (fun _ _ _ h => h) (Or.inl ⟨by kernel_rfl, ?_⟩) hS ?_
  rotate_left 1
  · rintro w ⟨h1, h2⟩
    go_simp
    all_goals with_reducible rfl
  refine wpAnyH_take (i := 1) (v := ?_) rfl (by kernel_rfl) (by kernel_rfl) (by kernel_rfl) (fun _ _ _ h => h) (Or.inl ⟨by kernel_rfl, ?_⟩) hS ?_
  rotate_left 1
  · rintro w ⟨h1, h2⟩
    go_simp
    all_goals with_reducible rfl
  refine wpAnyH_take (i := 2) (v := ?_) rfl (by kernel_rfl) (by kernel_rfl) (by kernel_rfl) (fun _ _ _ h => h) (Or.inl ⟨by kernel_rfl, ?_⟩) hS ?_
  rotate_left 1
  · rintro w ⟨h1, h2⟩
    go_simp
    all_goals with_reducible rfl
  refine wpAnyH_take (i := 3) (v := ?_) rfl (by kernel_rfl) (by kernel_rfl) (by kernel_rfl) (fun _ _ _ h => h) (Or.inl ⟨by kernel_rfl, ?_⟩) hS ?_
  rotate_left 1
  · rintro w ⟨h1, h2⟩
    go_simp
    all_goals with_reducible rfl
  refine wpAnyH_take (i := 4) (v := ?_) rfl (by kernel_rfl) (by kernel_rfl) (by kernel_rfl) (fun _ _ _ h => h) (Or.inl ⟨by kernel_rfl, ?_⟩) hS ?_
  rotate_left 1
  · rintro w ⟨h1, h2⟩
    go_simp
    all_goals with_reducible rfl
  refine wpAnyH_take (i := 5) (v := ?_) rfl (by kernel_rfl) (by kernel_rfl) (by kernel_rfl) (fun _ _ _ h => h) (Or.inl ⟨by kernel_rfl, ?_⟩) hS ?_
  rotate_left 1
  · rintro w ⟨h1, h2⟩
    go_simp
    all_goals with_reducible rfl
  refine wpAnyH_take (i := 6) (v := ?_) rfl (by kernel_rfl) (by kernel_rfl) (by kernel_rfl) (fun _ _ _ h => h) (Or.inl ⟨by kernel_rfl, ?_⟩) hS ?_
  rotate_left 1
  · rintro w ⟨h1, h2⟩
    go_simp
    all_goals with_reducible rfl
  refine wpAnyH_take (i := 7) (v := ?_) rfl (by kernel_rfl) (by kernel_rfl) (by kernel_rfl) (fun _ _ _ h => h) (Or.inl ⟨by kernel_rfl, ?_⟩) hS ?_
  rotate_left 1
  · rintro w ⟨h1, h2⟩
    go_simp
    all_goals with_reducible rfl
  refine wpAnyH_take (i := 8) (v := ?_) rfl (by kernel_rfl) (by kernel_rfl) (by kernel_rfl) (fun _ _ _ h => h) (Or.inl ⟨by kernel_rfl, ?_⟩) hS ?_
  rotate_left 1
  · rintro w ⟨h1, h2⟩
    go_simp
    all_goals with_reducible rfl
  refine wpAnyH_take (i := 10) (v := ?_) rfl (by kernel_rfl) (by kernel_rfl) (by kernel_rfl) (fun _ _ _ h => h) (Or.inl ⟨by kernel_rfl, ?_⟩) hS ?_
  rotate_left 1
  · rintro w ⟨h1, h2⟩
    go_simp
    all_goals with_reducible rfl
  refine wpAnyH_take (i := 11) (v := ?_) rfl (by kernel_rfl) (by kernel_rfl) (by kernel_rfl) (fun _ _ _ h => h) (Or.inl ⟨by kernel_rfl, ?_⟩) hS ?_
  rotate_left 1
  · rintro w ⟨h1, h2⟩
    go_simp
    all_goals with_reducible rfl
  refine wpAnyH_take (i := 12) (v := ?_) rfl (by kernel_rfl) (by kernel_rfl) (by kernel_rfl) (fun _ _ _ h => h) (Or.inl ⟨by kernel_rfl, ?_⟩) hS ?_
  rotate_left 1
  · rintro w ⟨h1, h2⟩
    go_simp
    all_goals with_reducible rfl
  refine wpAnyH_take (i := 13) (v := ?_) rfl (by kernel_rfl) (by kernel_rfl) (by kernel_rfl) (fun _ _ _ h => h) (Or.inl ⟨by kernel_rfl, ?_⟩) hS ?_
  rotate_left 1
  · rintro w ⟨h1, h2⟩
    go_simp
    all_goals with_reducible rfl
  refine wpAnyH_take (i := 14) (v := ?_) rfl (by kernel_rfl) (by kernel_rfl) (by kernel_rfl) (fun _ _ _ h => h) (Or.inl ⟨by kernel_rfl, ?_⟩) hS ?_
  rotate_left 1
  · rintro w ⟨h1, h2⟩
    go_simp
    all_goals with_reducible rfl
  refine wpAnyH_take (i := 15) (v := ?_) rfl (by kernel_rfl) (by kernel_rfl) (by kernel_rfl) (fun _ _ _ h => h) (Or.inl ⟨by kernel_rfl, ?_⟩) hS ?_
  rotate_left 1
  · rintro w ⟨h1, h2⟩
    go_simp
    all_goals with_reducible rfl
  refine wpAnyH_take (i := 18) (v := ?_) rfl (by kernel_rfl) (by kernel_rfl) (by kernel_rfl) (fun _ _ _ h => h) (Or.inl ⟨by kernel_rfl, ?_⟩) hS ?_
  rotate_left 1
  · rintro w ⟨h1, h2⟩
    go_simp
    all_goals with_reducible rfl
  refine wpAnyH_take (i := 19) (v := ?_) rfl (by kernel_rfl) (by kernel_rfl) (by kernel_rfl) (fun _ _ _ h => h) (Or.inl ⟨by kernel_rfl, ?_⟩) hS ?_
  rotate_left 1
  · rintro w ⟨h1, h2⟩
    go_simp
    all_goals with_reducible rfl
  have hcl := cp_z (HCF.out _ HRF.out.drew) ha
  have hdl := cp_z (HCF.out _ HRF.out.drew) hb
  rw [HZ.out] at hcl
  rw [HY.out] at hdl
  refine wpAnyH_ready (rs := [9, 16]) (by kernel_rfl) (by simp) ?_
  refine AllReadyH.cons rfl (fun K hK => ?_) (AllReadyH.cons rfl (fun K hK => ?_) AllReadyH.nil)
  · skip
    go_simp
    refine hK.out _ _ (hS) (fun hS => ?_)
    clear hK K
    refine wpAnyH_ready (rs := [16]) (by kernel_rfl) (by simp) ?_
    refine AllReadyH.cons rfl (fun K hK => ?_) AllReadyH.nil
    go_simp
    refine hK.out _ _ (hS) (fun hS => ?_)
    clear hK K
    refine wpAnyH_ready (rs := [17]) (by kernel_rfl) (by simp) ?_
    refine AllReadyH.cons rfl (fun K hK => ?_) AllReadyH.nil
    go_simp
    refine (HJ.out _ HRF.out.drew).mono ?_
    rintro e W6 ⟨rfl, hW6⟩
    refine hK.out _ _ (HXX.out _ hW6) (fun hS => ?_)
    clear hK K
    refine wpAnyH_take (i := 20) (v := ?_) rfl (by kernel_rfl) (by kernel_rfl) (by kernel_rfl) (fun _ _ _ h => h) (Or.inl ⟨by kernel_rfl, ?_⟩) hS ?_
    rotate_left 1
    · rintro w ⟨h1, h2⟩
      go_simp
      all_goals with_reducible rfl
    have hcf6 := cp_z (HCF.out _ hW6) ha
    have hff6 := (HCF.out _ hW6).frozen (8 + a)
    have hlf6 := (HCF.out _ hW6).lt
    refine wpAnyH_ready (rs := [21]) (by kernel_rfl) (by simp) ?_
    refine AllReadyH.cons rfl (fun K hK => ?_) AllReadyH.nil
    go_simp
    refine hK.out _ _ (⟨(World.cell?_setCell_far W6 ⟨gc, 8 + a, none⟩ ⟨w.heap.size, 1, none⟩ _ (fun h => HNE.out h.symm)).trans hS.1, (World.cell?_setCell_far W6 ⟨gc, 8 + a, none⟩ ⟨w.heap.size, 2, none⟩ _ (fun h => HNE.out h.symm)).trans hS.2⟩) (fun hS => ?_)
    clear hK K
    refine wpAnyH_done (by kernel_rfl) ?_ _
    go_wp2
    exact bodyPost_end (results_none rfl _ _ _) rfl ⟨rfl, moved_z (HC1.out.below hW6 HC1.out.lt) (HM1.out.below hW6) (bl_step HB1.out hW6) hcg hcB ha (r1, r2)⟩
  · skip
    go_simp
    refine hK.out _ _ (hS) (fun hS => ?_)
    clear hK K
    refine wpAnyH_ready (rs := [9]) (by kernel_rfl) (by simp) ?_
    refine AllReadyH.cons rfl (fun K hK => ?_) AllReadyH.nil
    go_simp
    refine hK.out _ _ (hS) (fun hS => ?_)
    clear hK K
    refine wpAnyH_ready (rs := [17]) (by kernel_rfl) (by simp) ?_
    refine AllReadyH.cons rfl (fun K hK => ?_) AllReadyH.nil
    go_simp
    refine (HJ.out _ HRF.out.drew).mono ?_
    rintro e W6 ⟨rfl, hW6⟩
    refine hK.out _ _ (HXX.out _ hW6) (fun hS => ?_)
    clear hK K
    refine wpAnyH_take (i := 20) (v := ?_) rfl (by kernel_rfl) (by kernel_rfl) (by kernel_rfl) (fun _ _ _ h => h) (Or.inl ⟨by kernel_rfl, ?_⟩) hS ?_
    rotate_left 1
    · rintro w ⟨h1, h2⟩
      go_simp
      all_goals with_reducible rfl
    have hcf6 := cp_z (HCF.out _ hW6) ha
    have hff6 := (HCF.out _ hW6).frozen (8 + a)
    have hlf6 := (HCF.out _ hW6).lt
    refine wpAnyH_ready (rs := [21]) (by kernel_rfl) (by simp) ?_
    refine AllReadyH.cons rfl (fun K hK => ?_) AllReadyH.nil
    go_simp
    refine hK.out _ _ (⟨(World.cell?_setCell_far W6 ⟨gc, 8 + a, none⟩ ⟨w.heap.size, 1, none⟩ _ (fun h => HNE.out h.symm)).trans hS.1, (World.cell?_setCell_far W6 ⟨gc, 8 + a, none⟩ ⟨w.heap.size, 2, none⟩ _ (fun h => HNE.out h.symm)).trans hS.2⟩) (fun hS => ?_)
    clear hK K
    refine wpAnyH_done (by kernel_rfl) ?_ _
    go_wp2
    exact bodyPost_end (results_none rfl _ _ _) rfl ⟨rfl, moved_z (HC1.out.below hW6 HC1.out.lt) (HM1.out.below hW6) (bl_step HB1.out hW6) hcg hcB ha (r1, r2)⟩

set_option maxRecDepth 100000 in
set_option maxHeartbeats 16000000 in
theorem zmul_any {w : World} {gc g : Nat} {A : Option Addr} {B cap : Nat} {c : Cp} {m : List Int} (hC : CpAt w gc c) (hM : RamAt w g A B cap m) (hcg : gc ≠ g) (hcB : gc ≠ B) (hc : c.Ok) (imm : Int) (a b : Nat) (ha : a < 2) (hb : b < 2) :
    Calls Tryd.prog 35 #[.agg #[.int .i64 28, .int .i64 (a : Int), .int .i64 (b : Int), .int .i64 imm], .pointer (some ⟨gc, 0, none⟩)] w fun e w' => e = .returned (.tuple #[]) ∧ Moved w w' gc g A B cap (wholeP c 28 a b) m := by
  have hb0 := bl_new (Below.refl w.heap.size w) (.cells #[.int .i64 28, .int .i64 (a : Int), .int .i64 (b : Int), .int .i64 imm] 38)
  have hX := Blk.new w 38 #[.int .i64 28, .int .i64 (a : Int), .int .i64 (b : Int), .int .i64 imm]
  have hC1 := hC.alloc (.cells #[.int .i64 28, .int .i64 (a : Int), .int .i64 (b : Int), .int .i64 imm] 38)
  have HM1 := Lib.hid (hM.below hb0)
  have HC1 := Lib.hid hC1
  have HB1 := Lib.hid hb0
  have HX1 := Lib.hid hX
  have hab : (a : Int) < 2 := by omega
  clear hM hb0
  have hp : wholeP c 28 a b = c.setZ a (zmk (zre (c.z a) * zre (c.z b) - zim (c.z a) * zim (c.z b)) (zre (c.z a) * zim (c.z b) + zim (c.z a) * zre (c.z b))) := by unfold wholeP; simp
  rw [hp]
  clear hp
  have hza := cp_z hC1 ha
  have hzb := cp_z hC1 hb
  obtain ⟨z1, z2, hz⟩ : ∃ z1 z2, c.z a = (z1, z2) := ⟨_, _, rfl⟩
  obtain ⟨y1, y2, hy⟩ : ∃ y1 y2, c.z b = (y1, y2) := ⟨_, _, rfl⟩
  rw [hz, hy]
  have HZ := Lib.hid hz
  have HY := Lib.hid hy
  have hbb : (b : Int) < 2 := by omega
  clear hz hy hza hzb
  generalize hW1 : w.alloc (.cells #[.int .i64 28, .int .i64 (a : Int), .int .i64 (b : Int), .int .i64 imm] 38) = W1 at *
  have HRF := Lib.hid (Below.refl W1.heap.size W1)
  have HNE := Lib.hid (show w.heap.size ≠ gc from by have := hC.lt; omega)
  have HCF := Lib.hid (fun W (hW : Below W1.heap.size W1 W) => show CpAt W gc c from HC1.out.below hW HC1.out.lt)
  have HXX := Lib.hid (fun W (hW : Below W1.heap.size W1 W) => show W.cell? ⟨w.heap.size, 1, none⟩ = some (.int .i64 (a : Int)) ∧ W.cell? ⟨w.heap.size, 2, none⟩ = some (.int .i64 (b : Int)) from ⟨(ccells (HX1.out.below hW HX1.out.lt)).2.1, (ccells (HX1.out.below hW HX1.out.lt)).2.2.1⟩)
  obtain ⟨c0, c1, c2, c3, clt⟩ := ccells hX
  have hltc := hC1.lt
  clear hX hC1 hC
  obtain ⟨r1, r2, hr⟩ : ∃ r1 r2, zmk (zre ((z1, z2)) * zre ((y1, y2)) - zim ((z1, z2)) * zim ((y1, y2))) (zre ((z1, z2)) * zim ((y1, y2)) + zim ((z1, z2)) * zre ((y1, y2))) = (r1, r2) := ⟨_, _, rfl⟩
  rw [hr]
  have HJ := Lib.hid (fun W (hW : Below W1.heap.size W1 W) => show Calls Tryd.prog 57 #[.complex .f64 z1 z2, .complex .f64 y1 y2] W fun e w' => e = .returned (.complex .f64 r1 r2) ∧ Below W1.heap.size W1 w' from (gMul_any (w := W) z1 z2 y1 y2).mono fun e w' h => ⟨by rw [h.1, show mk (re z1 z2 * re y1 y2 - im z1 z2 * im y1 y2) (re z1 z2 * im y1 y2 + im z1 z2 * re y1 y2) = .complex .f64 (zmk (zre ((z1, z2)) * zre ((y1, y2)) - zim ((z1, z2)) * zim ((y1, y2))) (zre ((z1, z2)) * zim ((y1, y2)) + zim ((z1, z2)) * zre ((y1, y2)))).1 (zmk (zre ((z1, z2)) * zre ((y1, y2)) - zim ((z1, z2)) * zim ((y1, y2))) (zre ((z1, z2)) * zim ((y1, y2)) + zim ((z1, z2)) * zre ((y1, y2)))).2 from rfl, hr], bl_step hW h.2⟩)
  clear hr
  go_enter Tryd.func35, Tryd.ntmps35
  go_wp2_with fail
  try rw [hW1]
  clear hW1
  refine wp_region_held_drew (S := (fun W => W.cell? ⟨w.heap.size, 1, none⟩ = some (.int .i64 (a : Int)) ∧ W.cell? ⟨w.heap.size, 2, none⟩ = some (.int .i64 (b : Int)))) (by kernel_rfl) (HXX.out _ HRF.out.drew) (fun hS => ?_)
  refine wpAnyH_take (i := 0) (v := ?_) rfl (by kernel_rfl) (by kernel_rfl) (by kernel_rfl) (fun _ _ _ h => h) (Or.inl ⟨by kernel_rfl, ?_⟩) hS ?_
  rotate_left 1
  · rintro w ⟨h1, h2⟩
    go_simp
    all_goals with_reducible rfl
  refine wpAnyH_take (i := 1) (v := ?_) rfl (by kernel_rfl) (by kernel_rfl) (by kernel_rfl) (fun _ _ _ h => h) (Or.inl ⟨by kernel_rfl, ?_⟩) hS ?_
  rotate_left 1
  · rintro w ⟨h1, h2⟩
    go_simp
    all_goals with_reducible rfl
  refine wpAnyH_take (i := 2) (v := ?_) rfl (by kernel_rfl) (by kernel_rfl) (by kernel_rfl) (fun _ _ _ h => h) (Or.inl ⟨by kernel_rfl, ?_⟩) hS ?_
  rotate_left 1
  · rintro w ⟨h1, h2⟩
    go_simp
    all_goals with_reducible rfl
  refine wpAnyH_take (i := 3) (v := ?_) rfl (by kernel_rfl) (by kernel_rfl) (by kernel_rfl) (fun _ _ _ h => h) (Or.inl ⟨by kernel_rfl, ?_⟩) hS ?_
  rotate_left 1
  · rintro w ⟨h1, h2⟩
    go_simp
    all_goals with_reducible rfl
  refine wpAnyH_take (i := 4) (v := ?_) rfl (by kernel_rfl) (by kernel_rfl) (by kernel_rfl) (fun _ _ _ h => h) (Or.inl ⟨by kernel_rfl, ?_⟩) hS ?_
  rotate_left 1
  · rintro w ⟨h1, h2⟩
    go_simp
    all_goals with_reducible rfl
  refine wpAnyH_take (i := 5) (v := ?_) rfl (by kernel_rfl) (by kernel_rfl) (by kernel_rfl) (fun _ _ _ h => h) (Or.inl ⟨by kernel_rfl, ?_⟩) hS ?_
  rotate_left 1
  · rintro w ⟨h1, h2⟩
    go_simp
    all_goals with_reducible rfl
  refine wpAnyH_take (i := 6) (v := ?_) rfl (by kernel_rfl) (by kernel_rfl) (by kernel_rfl) (fun _ _ _ h => h) (Or.inl ⟨by kernel_rfl, ?_⟩) hS ?_
  rotate_left 1
  · rintro w ⟨h1, h2⟩
    go_simp
    all_goals with_reducible rfl
  refine wpAnyH_take (i := 7) (v := ?_) rfl (by kernel_rfl) (by kernel_rfl) (by kernel_rfl) (fun _ _ _ h => h) (Or.inl ⟨by kernel_rfl, ?_⟩) hS ?_
  rotate_left 1
  · rintro w ⟨h1, h2⟩
    go_simp
    all_goals with_reducible rfl
  refine wpAnyH_take (i := 8) (v := ?_) rfl (by kernel_rfl) (by kernel_rfl) (by kernel_rfl) (fun _ _ _ h => h) (Or.inl ⟨by kernel_rfl, ?_⟩) hS ?_
  rotate_left 1
  · rintro w ⟨h1, h2⟩
    go_simp
    all_goals with_reducible rfl
  refine wpAnyH_take (i := 10) (v := ?_) rfl (by kernel_rfl) (by kernel_rfl) (by kernel_rfl) (fun _ _ _ h => h) (Or.inl ⟨by kernel_rfl, ?_⟩) hS ?_
  rotate_left 1
  · rintro w ⟨h1, h2⟩
    go_simp
    all_goals with_reducible rfl
  refine wpAnyH_take (i := 11) (v := ?_) rfl (by kernel_rfl) (by kernel_rfl) (by kernel_rfl) (fun _ _ _ h => h) (Or.inl ⟨by kernel_rfl, ?_⟩) hS ?_
  rotate_left 1
  · rintro w ⟨h1, h2⟩
    go_simp
    all_goals with_reducible rfl
  refine wpAnyH_take (i := 12) (v := ?_) rfl (by kernel_rfl) (by kernel_rfl) (by kernel_rfl) (fun _ _ _ h => h) (Or.inl ⟨by kernel_rfl, ?_⟩) hS ?_
  rotate_left 1
  · rintro w ⟨h1, h2⟩
    go_simp
    all_goals with_reducible rfl
  refine wpAnyH_take (i := 13) (v := ?_) rfl (by kernel_rfl) (by kernel_rfl) (by kernel_rfl) (fun _ _ _ h => h) (Or.inl ⟨by kernel_rfl, ?_⟩) hS ?_
  rotate_left 1
  · rintro w ⟨h1, h2⟩
    go_simp
    all_goals with_reducible rfl
  refine wpAnyH_take (i := 14) (v := ?_) rfl (by kernel_rfl) (by kernel_rfl) (by kernel_rfl) (fun _ _ _ h => h) (Or.inl ⟨by kernel_rfl, ?_⟩) hS ?_
  rotate_left 1
  · rintro w ⟨h1, h2⟩
    go_simp
    all_goals with_reducible rfl
  refine wpAnyH_take (i := 15) (v := ?_) rfl (by kernel_rfl) (by kernel_rfl) (by kernel_rfl) (fun _ _ _ h => h) (Or.inl ⟨by kernel_rfl, ?_⟩) hS ?_
  rotate_left 1
  · rintro w ⟨h1, h2⟩
    go_simp
    all_goals with_reducible rfl
  refine wpAnyH_take (i := 18) (v := ?_) rfl (by kernel_rfl) (by kernel_rfl) (by kernel_rfl) (fun _ _ _ h => h) (Or.inl ⟨by kernel_rfl, ?_⟩) hS ?_
  rotate_left 1
  · rintro w ⟨h1, h2⟩
    go_simp
    all_goals with_reducible rfl
  refine wpAnyH_take (i := 19) (v := ?_) rfl (by kernel_rfl) (by kernel_rfl) (by kernel_rfl) (fun _ _ _ h => h) (Or.inl ⟨by kernel_rfl, ?_⟩) hS ?_
  rotate_left 1
  · rintro w ⟨h1, h2⟩
    go_simp
    all_goals with_reducible rfl
  have hcl := cp_z (HCF.out _ HRF.out.drew) ha
  have hdl := cp_z (HCF.out _ HRF.out.drew) hb
  rw [HZ.out] at hcl
  rw [HY.out] at hdl
  refine wpAnyH_ready (rs := [9, 16]) (by kernel_rfl) (by simp) ?_
  refine AllReadyH.cons rfl (fun K hK => ?_) (AllReadyH.cons rfl (fun K hK => ?_) AllReadyH.nil)
  · skip
    go_simp
    refine hK.out _ _ (hS) (fun hS => ?_)
    clear hK K
    refine wpAnyH_ready (rs := [16]) (by kernel_rfl) (by simp) ?_
    refine AllReadyH.cons rfl (fun K hK => ?_) AllReadyH.nil
    go_simp
    refine hK.out _ _ (hS) (fun hS => ?_)
    clear hK K
    refine wpAnyH_ready (rs := [17]) (by kernel_rfl) (by simp) ?_
    refine AllReadyH.cons rfl (fun K hK => ?_) AllReadyH.nil
    go_simp
    refine (HJ.out _ HRF.out.drew).mono ?_
    rintro e W6 ⟨rfl, hW6⟩
    refine hK.out _ _ (HXX.out _ hW6) (fun hS => ?_)
    clear hK K
    refine wpAnyH_take (i := 20) (v := ?_) rfl (by kernel_rfl) (by kernel_rfl) (by kernel_rfl) (fun _ _ _ h => h) (Or.inl ⟨by kernel_rfl, ?_⟩) hS ?_
    rotate_left 1
    · rintro w ⟨h1, h2⟩
      go_simp
      all_goals with_reducible rfl
    have hcf6 := cp_z (HCF.out _ hW6) ha
    have hff6 := (HCF.out _ hW6).frozen (8 + a)
    have hlf6 := (HCF.out _ hW6).lt
    refine wpAnyH_ready (rs := [21]) (by kernel_rfl) (by simp) ?_
    refine AllReadyH.cons rfl (fun K hK => ?_) AllReadyH.nil
    go_simp
    refine hK.out _ _ (⟨(World.cell?_setCell_far W6 ⟨gc, 8 + a, none⟩ ⟨w.heap.size, 1, none⟩ _ (fun h => HNE.out h.symm)).trans hS.1, (World.cell?_setCell_far W6 ⟨gc, 8 + a, none⟩ ⟨w.heap.size, 2, none⟩ _ (fun h => HNE.out h.symm)).trans hS.2⟩) (fun hS => ?_)
    clear hK K
    refine wpAnyH_done (by kernel_rfl) ?_ _
    go_wp2
    exact bodyPost_end (results_none rfl _ _ _) rfl ⟨rfl, moved_z (HC1.out.below hW6 HC1.out.lt) (HM1.out.below hW6) (bl_step HB1.out hW6) hcg hcB ha (r1, r2)⟩
  · skip
    go_simp
    refine hK.out _ _ (hS) (fun hS => ?_)
    clear hK K
    refine wpAnyH_ready (rs := [9]) (by kernel_rfl) (by simp) ?_
    refine AllReadyH.cons rfl (fun K hK => ?_) AllReadyH.nil
    go_simp
    refine hK.out _ _ (hS) (fun hS => ?_)
    clear hK K
    refine wpAnyH_ready (rs := [17]) (by kernel_rfl) (by simp) ?_
    refine AllReadyH.cons rfl (fun K hK => ?_) AllReadyH.nil
    go_simp
    refine (HJ.out _ HRF.out.drew).mono ?_
    rintro e W6 ⟨rfl, hW6⟩
    refine hK.out _ _ (HXX.out _ hW6) (fun hS => ?_)
    clear hK K
    refine wpAnyH_take (i := 20) (v := ?_) rfl (by kernel_rfl) (by kernel_rfl) (by kernel_rfl) (fun _ _ _ h => h) (Or.inl ⟨by kernel_rfl, ?_⟩) hS ?_
    rotate_left 1
    · rintro w ⟨h1, h2⟩
      go_simp
      all_goals with_reducible rfl
    have hcf6 := cp_z (HCF.out _ hW6) ha
    have hff6 := (HCF.out _ hW6).frozen (8 + a)
    have hlf6 := (HCF.out _ hW6).lt
    refine wpAnyH_ready (rs := [21]) (by kernel_rfl) (by simp) ?_
    refine AllReadyH.cons rfl (fun K hK => ?_) AllReadyH.nil
    go_simp
    refine hK.out _ _ (⟨(World.cell?_setCell_far W6 ⟨gc, 8 + a, none⟩ ⟨w.heap.size, 1, none⟩ _ (fun h => HNE.out h.symm)).trans hS.1, (World.cell?_setCell_far W6 ⟨gc, 8 + a, none⟩ ⟨w.heap.size, 2, none⟩ _ (fun h => HNE.out h.symm)).trans hS.2⟩) (fun hS => ?_)
    clear hK K
    refine wpAnyH_done (by kernel_rfl) ?_ _
    go_wp2
    exact bodyPost_end (results_none rfl _ _ _) rfl ⟨rfl, moved_z (HC1.out.below hW6 HC1.out.lt) (HM1.out.below hW6) (bl_step HB1.out hW6) hcg hcB ha (r1, r2)⟩

set_option maxRecDepth 100000 in
set_option maxHeartbeats 16000000 in
theorem zset_any {w : World} {gc g : Nat} {A : Option Addr} {B cap : Nat} {c : Cp} {m : List Int} (hC : CpAt w gc c) (hM : RamAt w g A B cap m) (hcg : gc ≠ g) (hcB : gc ≠ B) (hc : c.Ok) (imm : Int) (a b : Nat) (ha : a < 2) (hb : b < 7) :
    Calls Tryd.prog 35 #[.agg #[.int .i64 25, .int .i64 (a : Int), .int .i64 (b : Int), .int .i64 imm], .pointer (some ⟨gc, 0, none⟩)] w fun e w' => e = .returned (.tuple #[]) ∧ Moved w w' gc g A B cap (wholeP c 25 a b) m := by
  have hb0 := bl_new (Below.refl w.heap.size w) (.cells #[.int .i64 25, .int .i64 (a : Int), .int .i64 (b : Int), .int .i64 imm] 38)
  have hX := Blk.new w 38 #[.int .i64 25, .int .i64 (a : Int), .int .i64 (b : Int), .int .i64 imm]
  have hC1 := hC.alloc (.cells #[.int .i64 25, .int .i64 (a : Int), .int .i64 (b : Int), .int .i64 imm] 38)
  have HM1 := Lib.hid (hM.below hb0)
  have HC1 := Lib.hid hC1
  have HB1 := Lib.hid hb0
  have HX1 := Lib.hid hX
  have hab : (a : Int) < 2 := by omega
  clear hM hb0
  have hp : wholeP c 25 a b = c.setZ a (zmk (wrap32 (c.r b)) (wrap32 (c.r (b + 1)))) := by unfold wholeP; simp
  rw [hp]
  clear hp
  have hb8 : b < 8 := by omega
  have hb18 : b + 1 < 8 := by omega
  have hbb : (b : Int) < 7 := by omega
  have hbb8 : (b : Int) < 8 := by omega
  have hbb9 : (b : Int) + 1 < 8 := by omega
  have hbb0 : (0 : Int) ≤ (b : Int) + 1 := by omega
  have hq0 := hc.r b
  have hq1 := hc.r (b + 1)
  obtain ⟨x1, hx1⟩ : ∃ x1, c.r b = x1 := ⟨_, rfl⟩
  obtain ⟨x2, hx2⟩ : ∃ x2, c.r (b + 1) = x2 := ⟨_, rfl⟩
  rw [hx1, hx2]
  rw [hx1] at hq0
  rw [hx2] at hq1
  have HX2 := Lib.hid hx1
  have HX3 := Lib.hid hx2
  clear hx1 hx2
  generalize hW1 : w.alloc (.cells #[.int .i64 25, .int .i64 (a : Int), .int .i64 (b : Int), .int .i64 imm] 38) = W1 at *
  have HRF := Lib.hid (Below.refl W1.heap.size W1)
  have HNE := Lib.hid (show w.heap.size ≠ gc from by have := hC.lt; omega)
  have HCF := Lib.hid (fun W (hW : Below W1.heap.size W1 W) => show CpAt W gc c from HC1.out.below hW HC1.out.lt)
  have HXX := Lib.hid (fun W (hW : Below W1.heap.size W1 W) => show W.cell? ⟨w.heap.size, 1, none⟩ = some (.int .i64 (a : Int)) ∧ W.cell? ⟨w.heap.size, 2, none⟩ = some (.int .i64 (b : Int)) from ⟨(ccells (HX1.out.below hW HX1.out.lt)).2.1, (ccells (HX1.out.below hW HX1.out.lt)).2.2.1⟩)
  obtain ⟨c0, c1, c2, c3, clt⟩ := ccells hX
  have hltc := hC1.lt
  clear hX hC1 hC
  obtain ⟨r1, r2, hr⟩ : ∃ r1 r2, zmk (wrap32 x1) (wrap32 x2) = (r1, r2) := ⟨_, _, rfl⟩
  rw [hr]
  have HJ := Lib.hid (fun W (hW : Below W1.heap.size W1 W) => show Calls Tryd.prog 54 #[.int .u32 x1, .int .u32 x2] W fun e w' => e = .returned (.complex .f64 r1 r2) ∧ Below W1.heap.size W1 w' from (gFromWords_any (w := W) x1 x2 hq0 hq1).mono fun e w' h => ⟨by rw [h.1, show mk (wrap32 x1) (wrap32 x2) = .complex .f64 (zmk (wrap32 x1) (wrap32 x2)).1 (zmk (wrap32 x1) (wrap32 x2)).2 from rfl, hr], by rw [← h.2]; exact hW⟩)
  clear hr
  have HRR := Lib.hid (fun W (c' : Cp) (hW : CpAt W gc c') (hr : c'.r = c.r) => show W.cell? ⟨gc, b, none⟩ = some (.int .u32 x1) ∧ W.cell? ⟨gc, b + 1, none⟩ = some (.int .u32 x2) from ⟨by rw [cp_reg hW hb8, hr, HX2.out], by rw [cp_reg hW hb18, hr, HX3.out]⟩)
  obtain ⟨hq00, hq01⟩ := hq0
  obtain ⟨hq10, hq11⟩ := hq1
  go_enter Tryd.func35, Tryd.ntmps35
  go_wp2_with fail
  try rw [hW1]
  clear hW1
  refine wp_region_held_drew (S := (fun W => W.cell? ⟨w.heap.size, 1, none⟩ = some (.int .i64 (a : Int)) ∧ W.cell? ⟨w.heap.size, 2, none⟩ = some (.int .i64 (b : Int)) ∧ W.cell? ⟨gc, b, none⟩ = some (.int .u32 x1) ∧ W.cell? ⟨gc, b + 1, none⟩ = some (.int .u32 x2))) (by kernel_rfl) (⟨(HXX.out _ HRF.out.drew).1, (HXX.out _ HRF.out.drew).2, HRR.out _ c (HCF.out _ HRF.out.drew) rfl⟩) (fun hS => ?_)
  refine wpAnyH_take (i := 0) (v := ?_) rfl (by kernel_rfl) (by kernel_rfl) (by kernel_rfl) (fun _ _ _ h => h) (Or.inl ⟨by kernel_rfl, ?_⟩) hS ?_
  rotate_left 1
  · rintro w ⟨h1, h2, h3, h4⟩
    go_simp
    all_goals with_reducible rfl
  refine wpAnyH_take (i := 1) (v := ?_) rfl (by kernel_rfl) (by kernel_rfl) (by kernel_rfl) (fun _ _ _ h => h) (Or.inl ⟨by kernel_rfl, ?_⟩) hS ?_
  rotate_left 1
  · rintro w ⟨h1, h2, h3, h4⟩
    go_simp
    all_goals with_reducible rfl
  refine wpAnyH_take (i := 2) (v := ?_) rfl (by kernel_rfl) (by kernel_rfl) (by kernel_rfl) (fun _ _ _ h => h) (Or.inl ⟨by kernel_rfl, ?_⟩) hS ?_
  rotate_left 1
  · rintro w ⟨h1, h2, h3, h4⟩
    go_simp
    all_goals with_reducible rfl
  refine wpAnyH_take (i := 3) (v := ?_) rfl (by kernel_rfl) (by kernel_rfl) (by kernel_rfl) (fun _ _ _ h => h) (Or.inl ⟨by kernel_rfl, ?_⟩) hS ?_
  rotate_left 1
  · rintro w ⟨h1, h2, h3, h4⟩
    go_simp
    all_goals with_reducible rfl
  refine wpAnyH_take (i := 4) (v := ?_) rfl (by kernel_rfl) (by kernel_rfl) (by kernel_rfl) (fun _ _ _ h => h) (Or.inl ⟨by kernel_rfl, ?_⟩) hS ?_
  rotate_left 1
  · rintro w ⟨h1, h2, h3, h4⟩
    go_simp
    all_goals with_reducible rfl
  refine wpAnyH_take (i := 5) (v := ?_) rfl (by kernel_rfl) (by kernel_rfl) (by kernel_rfl) (fun _ _ _ h => h) (Or.inl ⟨by kernel_rfl, ?_⟩) hS ?_
  rotate_left 1
  · rintro w ⟨h1, h2, h3, h4⟩
    go_simp
    all_goals with_reducible rfl
  refine wpAnyH_take (i := 6) (v := ?_) rfl (by kernel_rfl) (by kernel_rfl) (by kernel_rfl) (fun _ _ _ h => h) (Or.inl ⟨by kernel_rfl, ?_⟩) hS ?_
  rotate_left 1
  · rintro w ⟨h1, h2, h3, h4⟩
    go_simp
    all_goals with_reducible rfl
  refine wpAnyH_take (i := 7) (v := ?_) rfl (by kernel_rfl) (by kernel_rfl) (by kernel_rfl) (fun _ _ _ h => h) (Or.inl ⟨by kernel_rfl, ?_⟩) hS ?_
  rotate_left 1
  · rintro w ⟨h1, h2, h3, h4⟩
    go_simp
    all_goals with_reducible rfl
  refine wpAnyH_take (i := 8) (v := ?_) rfl (by kernel_rfl) (by kernel_rfl) (by kernel_rfl) (fun _ _ _ h => h) (Or.inl ⟨by kernel_rfl, ?_⟩) hS ?_
  rotate_left 1
  · rintro w ⟨h1, h2, h3, h4⟩
    go_simp
    all_goals with_reducible rfl
  refine wpAnyH_take (i := 9) (v := ?_) rfl (by kernel_rfl) (by kernel_rfl) (by kernel_rfl) (fun _ _ _ h => h) (Or.inl ⟨by kernel_rfl, ?_⟩) hS ?_
  rotate_left 1
  · rintro w ⟨h1, h2, h3, h4⟩
    go_simp
    all_goals with_reducible rfl
  refine wpAnyH_take (i := 10) (v := ?_) rfl (by kernel_rfl) (by kernel_rfl) (by kernel_rfl) (fun _ _ _ h => h) (Or.inl ⟨by kernel_rfl, ?_⟩) hS ?_
  rotate_left 1
  · rintro w ⟨h1, h2, h3, h4⟩
    go_simp
    all_goals with_reducible rfl
  refine wpAnyH_take (i := 11) (v := ?_) rfl (by kernel_rfl) (by kernel_rfl) (by kernel_rfl) (fun _ _ _ h => h) (Or.inl ⟨by kernel_rfl, ?_⟩) hS ?_
  rotate_left 1
  · rintro w ⟨h1, h2, h3, h4⟩
    go_simp
    all_goals with_reducible rfl
  refine wpAnyH_take (i := 12) (v := ?_) rfl (by kernel_rfl) (by kernel_rfl) (by kernel_rfl) (fun _ _ _ h => h) (Or.inl ⟨by kernel_rfl, ?_⟩) hS ?_
  rotate_left 1
  · rintro w ⟨h1, h2, h3, h4⟩
    go_simp
    all_goals with_reducible rfl
  refine wpAnyH_take (i := 13) (v := .int .i64 ((b : Int) + 1)) rfl (by kernel_rfl) (by kernel_rfl) (by kernel_rfl) (fun _ _ _ h => h) (Or.inl ⟨by kernel_rfl, ?_⟩) hS ?_
  · rintro w ⟨h1, h2, h3, h4⟩
    go_simp
    all_goals first | with_reducible rfl | simp only [IntWalk.i64_in _ (show -9223372036854775808 ≤ (b : Int) + 1 ∧ (b : Int) + 1 ≤ 9223372036854775807 by omega)]
  refine wpAnyH_take (i := 14) (v := ?_) rfl (by kernel_rfl) (by kernel_rfl) (by kernel_rfl) (fun _ _ _ h => h) (Or.inl ⟨by kernel_rfl, ?_⟩) hS ?_
  rotate_left 1
  · rintro w ⟨h1, h2, h3, h4⟩
    go_simp
    all_goals with_reducible rfl
  refine wpAnyH_take (i := 15) (v := ?_) rfl (by kernel_rfl) (by kernel_rfl) (by kernel_rfl) (fun _ _ _ h => h) (Or.inl ⟨by kernel_rfl, ?_⟩) hS ?_
  rotate_left 1
  · rintro w ⟨h1, h2, h3, h4⟩
    go_simp
    all_goals with_reducible rfl
  refine wpAnyH_take (i := 16) (v := ?_) rfl (by kernel_rfl) (by kernel_rfl) (by kernel_rfl) (fun _ _ _ h => h) (Or.inl ⟨by kernel_rfl, ?_⟩) hS ?_
  rotate_left 1
  · rintro w ⟨h1, h2, h3, h4⟩
    go_simp
    all_goals with_reducible rfl
  refine wpAnyH_take (i := 17) (v := ?_) rfl (by kernel_rfl) (by kernel_rfl) (by kernel_rfl) (fun _ _ _ h => h) (Or.inl ⟨by kernel_rfl, ?_⟩) hS ?_
  rotate_left 1
  · rintro w ⟨h1, h2, h3, h4⟩
    go_simp
    all_goals with_reducible rfl
  refine wpAnyH_take (i := 19) (v := ?_) rfl (by kernel_rfl) (by kernel_rfl) (by kernel_rfl) (fun _ _ _ h => h) (Or.inl ⟨by kernel_rfl, ?_⟩) hS ?_
  rotate_left 1
  · rintro w ⟨h1, h2, h3, h4⟩
    go_simp
    all_goals with_reducible rfl
  refine wpAnyH_take (i := 20) (v := ?_) rfl (by kernel_rfl) (by kernel_rfl) (by kernel_rfl) (fun _ _ _ h => h) (Or.inl ⟨by kernel_rfl, ?_⟩) hS ?_
  rotate_left 1
  · rintro w ⟨h1, h2, h3, h4⟩
    go_simp
    all_goals with_reducible rfl
  refine wpAnyH_ready (rs := [18]) (by kernel_rfl) (by simp) ?_
  refine AllReadyH.cons rfl (fun K hK => ?_) AllReadyH.nil
  go_simp
  refine (HJ.out _ HRF.out.drew).mono ?_
  rintro e W6 ⟨rfl, hW6⟩
  refine hK.out _ _ (⟨(HXX.out _ hW6).1, (HXX.out _ hW6).2, HRR.out _ c (HCF.out _ hW6) rfl⟩) (fun hS => ?_)
  clear hK K
  refine wpAnyH_take (i := 21) (v := ?_) rfl (by kernel_rfl) (by kernel_rfl) (by kernel_rfl) (fun _ _ _ h => h) (Or.inl ⟨by kernel_rfl, ?_⟩) hS ?_
  rotate_left 1
  · rintro w ⟨h1, h2, h3, h4⟩
    go_simp
    all_goals with_reducible rfl
  have hcf6 := cp_z (HCF.out _ hW6) ha
  have hff6 := (HCF.out _ hW6).frozen (8 + a)
  have hlf6 := (HCF.out _ hW6).lt
  refine wpAnyH_ready (rs := [22]) (by kernel_rfl) (by simp) ?_
  refine AllReadyH.cons rfl (fun K hK => ?_) AllReadyH.nil
  go_simp
  refine hK.out _ _ (⟨(World.cell?_setCell_far W6 ⟨gc, 8 + a, none⟩ ⟨w.heap.size, 1, none⟩ _ (fun h => HNE.out h.symm)).trans (HXX.out _ hW6).1, (World.cell?_setCell_far W6 ⟨gc, 8 + a, none⟩ ⟨w.heap.size, 2, none⟩ _ (fun h => HNE.out h.symm)).trans (HXX.out _ hW6).2, HRR.out _ (c.setZ a (r1, r2)) (moved_z (HC1.out.below hW6 HC1.out.lt) (HM1.out.below hW6) (bl_step HB1.out hW6) hcg hcB ha (r1, r2)).c rfl⟩) (fun hS => ?_)
  clear hK K
  refine wpAnyH_done (by kernel_rfl) ?_ _
  go_wp2
  exact bodyPost_end (results_none rfl _ _ _) rfl ⟨rfl, moved_z (HC1.out.below hW6 HC1.out.lt) (HM1.out.below hW6) (bl_step HB1.out hW6) hcg hcB ha (r1, r2)⟩

set_option maxRecDepth 100000 in
set_option maxHeartbeats 16000000 in
theorem zget_any {w : World} {gc g : Nat} {A : Option Addr} {B cap : Nat} {c : Cp} {m : List Int} (hC : CpAt w gc c) (hM : RamAt w g A B cap m) (hcg : gc ≠ g) (hcB : gc ≠ B) (hc : c.Ok) (imm : Int) (a b : Nat) (ha : a < 2) (hb : b < 7) :
    Calls Tryd.prog 35 #[.agg #[.int .i64 26, .int .i64 (a : Int), .int .i64 (b : Int), .int .i64 imm], .pointer (some ⟨gc, 0, none⟩)] w fun e w' => e = .returned (.tuple #[]) ∧ Moved w w' gc g A B cap (wholeP c 26 a b) m := by
  have hb0 := bl_new (Below.refl w.heap.size w) (.cells #[.int .i64 26, .int .i64 (a : Int), .int .i64 (b : Int), .int .i64 imm] 38)
  have hX := Blk.new w 38 #[.int .i64 26, .int .i64 (a : Int), .int .i64 (b : Int), .int .i64 imm]
  have hC1 := hC.alloc (.cells #[.int .i64 26, .int .i64 (a : Int), .int .i64 (b : Int), .int .i64 imm] 38)
  have HM1 := Lib.hid (hM.below hb0)
  have HC1 := Lib.hid hC1
  have HB1 := Lib.hid hb0
  have HX1 := Lib.hid hX
  have hab : (a : Int) < 2 := by omega
  clear hM hb0
  have hp : wholeP c 26 a b = (c.setR b (zre (c.z a) % 4294967296)).setR (b + 1) (zim (c.z a) % 4294967296) := by unfold wholeP; simp
  rw [hp]
  clear hp
  have hb8 : b < 8 := by omega
  have hb18 : b + 1 < 8 := by omega
  have hbb : (b : Int) < 7 := by omega
  have hbb8 : (b : Int) < 8 := by omega
  have hbb9 : (b : Int) + 1 < 8 := by omega
  have hbb0 : (0 : Int) ≤ (b : Int) + 1 := by omega
  obtain ⟨z1, z2, hz⟩ : ∃ z1 z2, c.z a = (z1, z2) := ⟨_, _, rfl⟩
  rw [hz]
  have HZ := Lib.hid hz
  clear hz
  generalize hW1 : w.alloc (.cells #[.int .i64 26, .int .i64 (a : Int), .int .i64 (b : Int), .int .i64 imm] 38) = W1 at *
  have HRF := Lib.hid (Below.refl W1.heap.size W1)
  have HNE := Lib.hid (show w.heap.size ≠ gc from by have := hC.lt; omega)
  have HCF := Lib.hid (fun W (hW : Below W1.heap.size W1 W) => show CpAt W gc c from HC1.out.below hW HC1.out.lt)
  have HXX := Lib.hid (fun W (hW : Below W1.heap.size W1 W) => show W.cell? ⟨w.heap.size, 1, none⟩ = some (.int .i64 (a : Int)) ∧ W.cell? ⟨w.heap.size, 2, none⟩ = some (.int .i64 (b : Int)) from ⟨(ccells (HX1.out.below hW HX1.out.lt)).2.1, (ccells (HX1.out.below hW HX1.out.lt)).2.2.1⟩)
  obtain ⟨c0, c1, c2, c3, clt⟩ := ccells hX
  have hltc := hC1.lt
  clear hX hC1 hC
  obtain ⟨r1, hr1⟩ : ∃ r1, zre (z1, z2) % 4294967296 = r1 := ⟨_, rfl⟩
  obtain ⟨r2, hr2⟩ : ∃ r2, zim (z1, z2) % 4294967296 = r2 := ⟨_, rfl⟩
  rw [hr1, hr2]
  have HJ := Lib.hid (fun W (hW : Below W1.heap.size W1 W) => show Calls Tryd.prog 55 #[.complex .f64 z1 z2] W fun e w' => e = .returned (.tuple #[.int .u32 r1, .int .u32 r2]) ∧ Below W1.heap.size W1 w' from (gWords_any (w := W) z1 z2).mono fun e w' h => ⟨by rw [h.1, ← hr1, ← hr2]; rfl, bl_step hW h.2⟩)
  have HRR := Lib.hid (fun W (c' : Cp) (hW : CpAt W gc c') (hr : c'.z = c.z) => show W.cell? ⟨gc, 8 + a, none⟩ = some (.complex .f64 z1 z2) from by rw [cp_z hW ha, hr, HZ.out])
  clear hr1 hr2
  go_enter Tryd.func35, Tryd.ntmps35
  go_wp2_with fail
  try rw [hW1]
  clear hW1
  refine wp_region_held_drew (S := (fun W => W.cell? ⟨w.heap.size, 1, none⟩ = some (.int .i64 (a : Int)) ∧ W.cell? ⟨w.heap.size, 2, none⟩ = some (.int .i64 (b : Int)) ∧ W.cell? ⟨gc, 8 + a, none⟩ = some (.complex .f64 z1 z2))) (by kernel_rfl) (⟨(HXX.out _ HRF.out.drew).1, (HXX.out _ HRF.out.drew).2, HRR.out _ c (HCF.out _ HRF.out.drew) rfl⟩) (fun hS => ?_)
  refine wpAnyH_take (i := 0) (v := ?_) rfl (by kernel_rfl) (by kernel_rfl) (by kernel_rfl) (fun _ _ _ h => h) (Or.inl ⟨by kernel_rfl, ?_⟩) hS ?_
  rotate_left 1
  · rintro w ⟨h1, h2, h3⟩
    go_simp
    all_goals with_reducible rfl
  refine wpAnyH_take (i := 1) (v := ?_) rfl (by kernel_rfl) (by kernel_rfl) (by kernel_rfl) (fun _ _ _ h => h) (Or.inl ⟨by kernel_rfl, ?_⟩) hS ?_
  rotate_left 1
  · rintro w ⟨h1, h2, h3⟩
    go_simp
    all_goals with_reducible rfl
  refine wpAnyH_take (i := 2) (v := ?_) rfl (by kernel_rfl) (by kernel_rfl) (by kernel_rfl) (fun _ _ _ h => h) (Or.inl ⟨by kernel_rfl, ?_⟩) hS ?_
  rotate_left 1
  · rintro w ⟨h1, h2, h3⟩
    go_simp
    all_goals with_reducible rfl
  refine wpAnyH_take (i := 3) (v := ?_) rfl (by kernel_rfl) (by kernel_rfl) (by kernel_rfl) (fun _ _ _ h => h) (Or.inl ⟨by kernel_rfl, ?_⟩) hS ?_
  rotate_left 1
  · rintro w ⟨h1, h2, h3⟩
    go_simp
    all_goals with_reducible rfl
  refine wpAnyH_take (i := 4) (v := ?_) rfl (by kernel_rfl) (by kernel_rfl) (by kernel_rfl) (fun _ _ _ h => h) (Or.inl ⟨by kernel_rfl, ?_⟩) hS ?_
  rotate_left 1
  · rintro w ⟨h1, h2, h3⟩
    go_simp
    all_goals with_reducible rfl
  refine wpAnyH_take (i := 5) (v := ?_) rfl (by kernel_rfl) (by kernel_rfl) (by kernel_rfl) (fun _ _ _ h => h) (Or.inl ⟨by kernel_rfl, ?_⟩) hS ?_
  rotate_left 1
  · rintro w ⟨h1, h2, h3⟩
    go_simp
    all_goals with_reducible rfl
  refine wpAnyH_take (i := 6) (v := .int .i64 ((b : Int) + 1)) rfl (by kernel_rfl) (by kernel_rfl) (by kernel_rfl) (fun _ _ _ h => h) (Or.inl ⟨by kernel_rfl, ?_⟩) hS ?_
  · rintro w ⟨h1, h2, h3⟩
    go_simp
    all_goals first | with_reducible rfl | simp only [IntWalk.i64_in _ (show -9223372036854775808 ≤ (b : Int) + 1 ∧ (b : Int) + 1 ≤ 9223372036854775807 by omega)]
  refine wpAnyH_take (i := 7) (v := ?_) rfl (by kernel_rfl) (by kernel_rfl) (by kernel_rfl) (fun _ _ _ h => h) (Or.inl ⟨by kernel_rfl, ?_⟩) hS ?_
  rotate_left 1
  · rintro w ⟨h1, h2, h3⟩
    go_simp
    all_goals with_reducible rfl
  refine wpAnyH_take (i := 8) (v := ?_) rfl (by kernel_rfl) (by kernel_rfl) (by kernel_rfl) (fun _ _ _ h => h) (Or.inl ⟨by kernel_rfl, ?_⟩) hS ?_
  rotate_left 1
  · rintro w ⟨h1, h2, h3⟩
    go_simp
    all_goals with_reducible rfl
  refine wpAnyH_take (i := 9) (v := ?_) rfl (by kernel_rfl) (by kernel_rfl) (by kernel_rfl) (fun _ _ _ h => h) (Or.inl ⟨by kernel_rfl, ?_⟩) hS ?_
  rotate_left 1
  · rintro w ⟨h1, h2, h3⟩
    go_simp
    all_goals with_reducible rfl
  refine wpAnyH_take (i := 10) (v := ?_) rfl (by kernel_rfl) (by kernel_rfl) (by kernel_rfl) (fun _ _ _ h => h) (Or.inl ⟨by kernel_rfl, ?_⟩) hS ?_
  rotate_left 1
  · rintro w ⟨h1, h2, h3⟩
    go_simp
    all_goals with_reducible rfl
  refine wpAnyH_take (i := 11) (v := ?_) rfl (by kernel_rfl) (by kernel_rfl) (by kernel_rfl) (fun _ _ _ h => h) (Or.inl ⟨by kernel_rfl, ?_⟩) hS ?_
  rotate_left 1
  · rintro w ⟨h1, h2, h3⟩
    go_simp
    all_goals with_reducible rfl
  refine wpAnyH_take (i := 12) (v := ?_) rfl (by kernel_rfl) (by kernel_rfl) (by kernel_rfl) (fun _ _ _ h => h) (Or.inl ⟨by kernel_rfl, ?_⟩) hS ?_
  rotate_left 1
  · rintro w ⟨h1, h2, h3⟩
    go_simp
    all_goals with_reducible rfl
  refine wpAnyH_take (i := 13) (v := ?_) rfl (by kernel_rfl) (by kernel_rfl) (by kernel_rfl) (fun _ _ _ h => h) (Or.inl ⟨by kernel_rfl, ?_⟩) hS ?_
  rotate_left 1
  · rintro w ⟨h1, h2, h3⟩
    go_simp
    all_goals with_reducible rfl
  refine wpAnyH_take (i := 18) (v := ?_) rfl (by kernel_rfl) (by kernel_rfl) (by kernel_rfl) (fun _ _ _ h => h) (Or.inl ⟨by kernel_rfl, ?_⟩) hS ?_
  rotate_left 1
  · rintro w ⟨h1, h2, h3⟩
    go_simp
    all_goals with_reducible rfl
  refine wpAnyH_take (i := 19) (v := ?_) rfl (by kernel_rfl) (by kernel_rfl) (by kernel_rfl) (fun _ _ _ h => h) (Or.inl ⟨by kernel_rfl, ?_⟩) hS ?_
  rotate_left 1
  · rintro w ⟨h1, h2, h3⟩
    go_simp
    all_goals with_reducible rfl
  refine wpAnyH_take (i := 22) (v := ?_) rfl (by kernel_rfl) (by kernel_rfl) (by kernel_rfl) (fun _ _ _ h => h) (Or.inl ⟨by kernel_rfl, ?_⟩) hS ?_
  rotate_left 1
  · rintro w ⟨h1, h2, h3⟩
    go_simp
    all_goals with_reducible rfl
  refine wpAnyH_take (i := 23) (v := ?_) rfl (by kernel_rfl) (by kernel_rfl) (by kernel_rfl) (fun _ _ _ h => h) (Or.inl ⟨by kernel_rfl, ?_⟩) hS ?_
  rotate_left 1
  · rintro w ⟨h1, h2, h3⟩
    go_simp
    all_goals with_reducible rfl
  refine wpAnyH_ready (rs := [14]) (by kernel_rfl) (by simp) ?_
  refine AllReadyH.cons rfl (fun K hK => ?_) AllReadyH.nil
  go_simp
  refine (HJ.out _ HRF.out.drew).mono ?_
  rintro e W6 ⟨rfl, hW6⟩
  refine hK.out _ _ (⟨(HXX.out _ hW6).1, (HXX.out _ hW6).2, HRR.out _ c (HCF.out _ hW6) rfl⟩) (fun hS => ?_)
  clear hK K
  refine wpAnyH_take (i := 15) (v := ?_) rfl (by kernel_rfl) (by kernel_rfl) (by kernel_rfl) (fun _ _ _ h => h) (Or.inl ⟨by kernel_rfl, ?_⟩) hS ?_
  rotate_left 1
  · rintro w ⟨h1, h2, h3⟩
    go_simp
    all_goals with_reducible rfl
  refine wpAnyH_take (i := 16) (v := ?_) rfl (by kernel_rfl) (by kernel_rfl) (by kernel_rfl) (fun _ _ _ h => h) (Or.inl ⟨by kernel_rfl, ?_⟩) hS ?_
  rotate_left 1
  · rintro w ⟨h1, h2, h3⟩
    go_simp
    all_goals with_reducible rfl
  refine wpAnyH_take (i := 17) (v := ?_) rfl (by kernel_rfl) (by kernel_rfl) (by kernel_rfl) (fun _ _ _ h => h) (Or.inl ⟨by kernel_rfl, ?_⟩) hS ?_
  rotate_left 1
  · rintro w ⟨h1, h2, h3⟩
    go_simp
    all_goals with_reducible rfl
  refine wpAnyH_take (i := 20) (v := ?_) rfl (by kernel_rfl) (by kernel_rfl) (by kernel_rfl) (fun _ _ _ h => h) (Or.inl ⟨by kernel_rfl, ?_⟩) hS ?_
  rotate_left 1
  · rintro w ⟨h1, h2, h3⟩
    go_simp
    all_goals with_reducible rfl
  have hcf6 := cp_reg (HCF.out _ hW6) hb8
  have hff6 := (HCF.out _ hW6).frozen b
  have hlf6 := (HCF.out _ hW6).lt
  have HC7 := Lib.hid (show CpAt (W6.setCell ⟨gc, b, none⟩ (.int .u32 r1)) gc (c.setR b r1) from by rw [CpAt, ← arr_setR c hb8 r1]; exact (HCF.out _ hW6).set_ b _)
  refine wpAnyH_ready (rs := [21]) (by kernel_rfl) (by simp) ?_
  refine AllReadyH.cons rfl (fun K hK => ?_) AllReadyH.nil
  go_simp
  refine hK.out _ _ (⟨(World.cell?_setCell_far W6 ⟨gc, b, none⟩ ⟨w.heap.size, 1, none⟩ _ (fun h => HNE.out h.symm)).trans (HXX.out _ hW6).1, (World.cell?_setCell_far W6 ⟨gc, b, none⟩ ⟨w.heap.size, 2, none⟩ _ (fun h => HNE.out h.symm)).trans (HXX.out _ hW6).2, HRR.out _ (c.setR b r1) HC7.out rfl⟩) (fun hS => ?_)
  clear hK K
  refine wpAnyH_take (i := 24) (v := ?_) rfl (by kernel_rfl) (by kernel_rfl) (by kernel_rfl) (fun _ _ _ h => h) (Or.inl ⟨by kernel_rfl, ?_⟩) hS ?_
  rotate_left 1
  · rintro w ⟨h1, h2, h3⟩
    go_simp
    all_goals with_reducible rfl
  have HC8 := Lib.hid (show CpAt ((W6.setCell ⟨gc, b, none⟩ (.int .u32 r1)).setCell ⟨gc, b + 1, none⟩ (.int .u32 r2)) gc ((c.setR b r1).setR (b + 1) r2) from by rw [CpAt, ← arr_setR (c.setR b r1) hb18 r2]; exact HC7.out.set_ (b + 1) _)
  have HX7 := Lib.hid (show (W6.setCell ⟨gc, b, none⟩ (.int .u32 r1)).cell? ⟨w.heap.size, 1, none⟩ = some (.int .i64 (a : Int)) ∧ (W6.setCell ⟨gc, b, none⟩ (.int .u32 r1)).cell? ⟨w.heap.size, 2, none⟩ = some (.int .i64 (b : Int)) from ⟨(World.cell?_setCell_far W6 ⟨gc, b, none⟩ ⟨w.heap.size, 1, none⟩ _ (fun h => HNE.out h.symm)).trans (HXX.out _ hW6).1, (World.cell?_setCell_far W6 ⟨gc, b, none⟩ ⟨w.heap.size, 2, none⟩ _ (fun h => HNE.out h.symm)).trans (HXX.out _ hW6).2⟩)
  have HBT := Lib.hid (show But (fun k => k = gc) W6 ((W6.setCell ⟨gc, b, none⟩ (.int .u32 r1)).setCell ⟨gc, b + 1, none⟩ (.int .u32 r2)) from But.setCell (S := fun k => k = gc) (But.setCell (S := fun k => k = gc) (But.refl _ _) (p := ⟨gc, b, none⟩) (.inl rfl) _) (p := ⟨gc, b + 1, none⟩) (.inl rfl) _)
  have HMM := Lib.hid (show Moved w ((W6.setCell ⟨gc, b, none⟩ (.int .u32 r1)).setCell ⟨gc, b + 1, none⟩ (.int .u32 r2)) gc g A B cap ((c.setR b r1).setR (b + 1) r2) m from ⟨HC8.out, (HM1.out.below hW6).but HBT.out (fun h => hcg h.symm) (fun h => hcB h.symm), (But.of_below (S := SM gc B) (bl_step HB1.out hW6)).trans HBT.out (fun i h => .inl (.inl h))⟩)
  have hcf7 := cp_reg HC7.out hb18
  have hff7 := HC7.out.frozen (b + 1)
  have hlf7 := HC7.out.lt
  have HXF := Lib.hid (show ((W6.setCell ⟨gc, b, none⟩ (.int .u32 r1)).setCell ⟨gc, b + 1, none⟩ (.int .u32 r2)).cell? ⟨w.heap.size, 1, none⟩ = some (.int .i64 (a : Int)) ∧ ((W6.setCell ⟨gc, b, none⟩ (.int .u32 r1)).setCell ⟨gc, b + 1, none⟩ (.int .u32 r2)).cell? ⟨w.heap.size, 2, none⟩ = some (.int .i64 (b : Int)) from ⟨(World.cell?_setCell_far (W6.setCell ⟨gc, b, none⟩ (.int .u32 r1)) ⟨gc, b + 1, none⟩ ⟨w.heap.size, 1, none⟩ _ (fun h => HNE.out h.symm)).trans HX7.out.1, (World.cell?_setCell_far (W6.setCell ⟨gc, b, none⟩ (.int .u32 r1)) ⟨gc, b + 1, none⟩ ⟨w.heap.size, 2, none⟩ _ (fun h => HNE.out h.symm)).trans HX7.out.2⟩)
  refine wpAnyH_ready (rs := [25]) (by kernel_rfl) (by simp) ?_
  refine AllReadyH.cons rfl (fun K hK => ?_) AllReadyH.nil
  go_simp
  refine hK.out _ _ (⟨HXF.out.1, HXF.out.2, HRR.out _ ((c.setR b r1).setR (b + 1) r2) HC8.out rfl⟩) (fun hS => ?_)
  clear hK K
  refine wpAnyH_done (by kernel_rfl) ?_ _
  go_wp2
  exact bodyPost_end (results_none rfl _ _ _) rfl ⟨rfl, HMM.out⟩
end Go.Proofs.YtoglmemmdolbmaaDoor
