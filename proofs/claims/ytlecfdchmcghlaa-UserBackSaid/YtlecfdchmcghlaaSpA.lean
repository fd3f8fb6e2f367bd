/-
  own of spaces: a page gets a frame of its own, if it is Cow. Condition: the space and the frames lie in blocks of their own.
-/
import Derived.Test.YtlecfdchmcghlaaSp9
namespace Go.Proofs.Ytlecfdchmcghlaa
open Go.RowKit Go.Shelf
set_option linter.unusedVariables false
set_option linter.unusedSimpArgs false
attribute [local go_sem] Oper.semAt_some

theorem results_cell {P : Program} {fn : Func} {p : Tmp} {ty : TypeId} (h : fn.results = #[.cell p ty]) (tmps : Array Value) {w : World} {g : Nat} {t : TypeId} {cs : Array Value} {d : TypeDesc}
    (hp : tmps.getD p undef = .pointer (some ⟨g, 0, none⟩)) (hg : Blk w g t cs) (hu : P.underlying ty = some d) (hd : (match d with | .struct _ | .array _ _ => true | _ => false) = true) (hi : (P.info? ty).map (·.size) = some cs.size) :
    (results fn tmps).run P w = .ok (.agg cs) w := by
  have hl := run_loadVar_row (P := P) w g t ty cs (0, 0) d hg hu hd hi
  simp only [results, h]
  simp only [Array.getD_eq_getD_getElem?] at hp
  simp [Sem.run_bind, Result.andThen, hp, asAddr, hl]
theorem But.set_ {S : Nat → Prop} {a w : World} (h : But S a w) {b : Nat} (hb : S b ∨ a.heap.size ≤ b) (i : Nat) (u : Value) : But S a (w.setCell ⟨b, i, none⟩ u) := h.setCell (p := ⟨b, i, none⟩) hb u
section
variable {w : World} {fb lb cap : Nat} {F : Fs} {sb bt : Nat} {q : Nat → Option Nat} {m : M}
set_option maxRecDepth 100000 in
set_option maxHeartbeats 600000 in
theorem own_not (h : FS w fb lb cap F sb bt q m) (f : Int) (a1 a2 a4 : Bool) :
    Calls Try.prog 38 #[.pointer (some ⟨sb, 0, none⟩), .agg #[.int .i64 f, .bool a1, .bool a2, .bool false, .bool a4]] w fun e w' => e = .returned (.agg #[.int .i64 f, .bool a1, .bool a2, .bool false, .bool true]) ∧ Below w.heap.size w w' := by
  have bx := (Blk.new w 71 #[.int .i64 f, .bool a1, .bool a2, .bool false, .bool a4]).alloc (.cells #[.int .i64 0, .bool false, .bool false, .bool false, .bool false] 71)
  have br := Blk.new (w.alloc (.cells #[.int .i64 f, .bool a1, .bool a2, .bool false, .bool a4] 71)) 71 #[.int .i64 0, .bool false, .bool false, .bool false, .bool false]
  have hb0 := bl_new (bl_new (Below.refl w.heap.size w) (.cells #[.int .i64 f, .bool a1, .bool a2, .bool false, .bool a4] 71)) (.cells #[.int .i64 0, .bool false, .bool false, .bool false, .bool false] 71)
  rw [World.size_alloc] at br
  have HLT := Lib.hid (show fb < w.heap.size ∧ lb < w.heap.size ∧ sb < w.heap.size from ⟨h.f.lt.1, h.f.lt.2, h.s.p.lt⟩)
  have HH := Lib.hid h
  clear h
  go_enter Try.func38, Try.ntmps38
  go_wp2_with (fail)
  generalize ((w.alloc (.cells #[.int .i64 f, .bool a1, .bool a2, .bool false, .bool a4] 71)).alloc (.cells #[.int .i64 0, .bool false, .bool false, .bool false, .bool false] 71)) = W0 at *
  have HX := Lib.hid bx
  have HR := Lib.hid br
  have HB := Lib.hid (But.of_below (S := fun _ => False) hb0)
  have HF := Lib.hid (HH.out.below hb0)
  clear bx br hb0
  have x3 := HX.out.cell 3
  simp only [List.getElem?_toArray, List.getElem?_cons_zero, List.getElem?_cons_succ] at x3
  have lx0 := HX.out.lt
  go_region
  clear x3 lx0
  have HX1 := Lib.hid HX.out.drew
  have HR1 := Lib.hid HR.out.drew
  have HB1 := Lib.hid HB.out.drew
  clear HX HR HB HF
  generalize W0.drew = W1 at *
  have x0 := HX1.out.cell 0
  have x1 := HX1.out.cell 1
  have x2 := HX1.out.cell 2
  have x3 := HX1.out.cell 3
  have x4 := HX1.out.cell 4
  have r0 := HR1.out.cell 0
  have r1 := HR1.out.cell 1
  have r2 := HR1.out.cell 2
  have r3 := HR1.out.cell 3
  have r4 := HR1.out.cell 4
  simp only [List.getElem?_toArray, List.getElem?_cons_zero, List.getElem?_cons_succ] at x0 x1 x2 x3 x4 r0 r1 r2 r3 r4
  have f0 := HX1.out.frozen 0
  have f3 := HX1.out.frozen 3
  have f4 := HX1.out.frozen 4
  have s0 := HR1.out.frozen 0
  have s1 := HR1.out.frozen 1
  have s2 := HR1.out.frozen 2
  have s3 := HR1.out.frozen 3
  have s4 := HR1.out.frozen 4
  have lx := HX1.out.lt
  have lr := HR1.out.lt
  go_wp2
  have hfin := ((Blk.far (Blk.far HR1.out (p := ⟨w.heap.size, 3, none⟩) (by show w.heap.size + 1 ≠ w.heap.size; omega) (.bool false)) (p := ⟨w.heap.size, 4, none⟩) (by show w.heap.size + 1 ≠ w.heap.size; omega) (.bool true))).entrySet (x := E.zero) (.int .i64 f) (.bool a1) (.bool a2) (.bool false) (.bool true)
  exact bodyPost_ret (results_cell Try.results38 _ rfl hfin Try.underlying71 rfl (by kernel_rfl)) rfl ⟨rfl, (But.entrySet (But.set_ (But.set_ HB1.out (.inr (Nat.le_refl _)) 3 _) (.inr (Nat.le_refl _)) 4 _) (b := w.heap.size + 1) (.inr (Nat.le_succ _)) _ _ _ _ _).below (fun _ h => h.elim) (Nat.le_refl _)⟩
set_option maxRecDepth 100000 in
set_option maxHeartbeats 600000 in
theorem own_one (h : FS w fb lb cap F sb bt q m) (f : Int) (a1 a2 a4 : Bool) (hr : refsI F f ≤ 1) :
    Calls Try.prog 38 #[.pointer (some ⟨sb, 0, none⟩), .agg #[.int .i64 f, .bool a1, .bool a2, .bool true, .bool a4]] w fun e w' => e = .returned (.agg #[.int .i64 f, .bool a1, .bool a2, .bool false, .bool true]) ∧ Below w.heap.size w w' := by
  have hr1 : ¬ (1 : Int) < refsI F f := by omega
  have bx := (Blk.new w 71 #[.int .i64 f, .bool a1, .bool a2, .bool true, .bool a4]).alloc (.cells #[.int .i64 0, .bool false, .bool false, .bool false, .bool false] 71)
  have br := Blk.new (w.alloc (.cells #[.int .i64 f, .bool a1, .bool a2, .bool true, .bool a4] 71)) 71 #[.int .i64 0, .bool false, .bool false, .bool false, .bool false]
  have hb0 := bl_new (bl_new (Below.refl w.heap.size w) (.cells #[.int .i64 f, .bool a1, .bool a2, .bool true, .bool a4] 71)) (.cells #[.int .i64 0, .bool false, .bool false, .bool false, .bool false] 71)
  rw [World.size_alloc] at br
  have HLT := Lib.hid (show fb < w.heap.size ∧ lb < w.heap.size ∧ sb < w.heap.size from ⟨h.f.lt.1, h.f.lt.2, h.s.p.lt⟩)
  have HH := Lib.hid h
  clear h
  go_enter Try.func38, Try.ntmps38
  go_wp2_with (fail)
  generalize ((w.alloc (.cells #[.int .i64 f, .bool a1, .bool a2, .bool true, .bool a4] 71)).alloc (.cells #[.int .i64 0, .bool false, .bool false, .bool false, .bool false] 71)) = W0 at *
  have HX := Lib.hid bx
  have HR := Lib.hid br
  have HB := Lib.hid (But.of_below (S := fun _ => False) hb0)
  have HF := Lib.hid (HH.out.below hb0)
  clear bx br hb0
  have HRF := Lib.hid (frRefs_any HF.out.f.drew f)
  generalize refsI F f = r at *
  refine wp_region_held_drew (S := fun w' => w' = W0.drew) (by kernel_rfl) (rfl) (fun hS => ?_)
  refine wpAnyH_take (i := 0) (v := ?_) rfl (by kernel_rfl) (by kernel_rfl) (by kernel_rfl) (fun _ _ _ h => h) (Or.inl ⟨by kernel_rfl, ?_⟩) hS ?_
  rotate_left 1
  · intro w hS
    subst hS
    have x3 := HX.out.drew.cell 3
    have x0 := HX.out.drew.cell 0
    simp only [List.getElem?_toArray, List.getElem?_cons_zero, List.getElem?_cons_succ] at x3 x0
    have y0 := HF.out.s.p.drew.cell 0
    go_simp
    all_goals with_reducible rfl
  try simp only [Act.put, List.setIfInBounds_toArray, List.set_cons_zero, List.set_cons_succ]
  refine wpAnyH_take (i := 1) (v := ?_) rfl (by kernel_rfl) (by kernel_rfl) (by kernel_rfl) (fun _ _ _ h => h) (Or.inl ⟨by kernel_rfl, ?_⟩) hS ?_
  rotate_left 1
  · intro w hS
    subst hS
    have x3 := HX.out.drew.cell 3
    have x0 := HX.out.drew.cell 0
    simp only [List.getElem?_toArray, List.getElem?_cons_zero, List.getElem?_cons_succ] at x3 x0
    have y0 := HF.out.s.p.drew.cell 0
    go_simp
    all_goals with_reducible rfl
  try simp only [Act.put, List.setIfInBounds_toArray, List.set_cons_zero, List.set_cons_succ]
  refine wpAnyH_take (i := 2) (v := ?_) rfl (by kernel_rfl) (by kernel_rfl) (by kernel_rfl) (fun _ _ _ h => h) (Or.inl ⟨by kernel_rfl, ?_⟩) hS ?_
  rotate_left 1
  · intro w hS
    subst hS
    have x3 := HX.out.drew.cell 3
    have x0 := HX.out.drew.cell 0
    simp only [List.getElem?_toArray, List.getElem?_cons_zero, List.getElem?_cons_succ] at x3 x0
    have y0 := HF.out.s.p.drew.cell 0
    go_simp
    all_goals with_reducible rfl
  try simp only [Act.put, List.setIfInBounds_toArray, List.set_cons_zero, List.set_cons_succ]
  refine wpAnyH_take (i := 3) (v := ?_) rfl (by kernel_rfl) (by kernel_rfl) (by kernel_rfl) (fun _ _ _ h => h) (Or.inl ⟨by kernel_rfl, ?_⟩) hS ?_
  rotate_left 1
  · intro w hS
    subst hS
    have x3 := HX.out.drew.cell 3
    have x0 := HX.out.drew.cell 0
    simp only [List.getElem?_toArray, List.getElem?_cons_zero, List.getElem?_cons_succ] at x3 x0
    have y0 := HF.out.s.p.drew.cell 0
    go_simp
    all_goals with_reducible rfl
  try simp only [Act.put, List.setIfInBounds_toArray, List.set_cons_zero, List.set_cons_succ]
  refine wpAnyH_take (i := 4) (v := ?_) rfl (by kernel_rfl) (by kernel_rfl) (by kernel_rfl) (fun _ _ _ h => h) (Or.inl ⟨by kernel_rfl, ?_⟩) hS ?_
  rotate_left 1
  · intro w hS
    subst hS
    have x3 := HX.out.drew.cell 3
    have x0 := HX.out.drew.cell 0
    simp only [List.getElem?_toArray, List.getElem?_cons_zero, List.getElem?_cons_succ] at x3 x0
    have y0 := HF.out.s.p.drew.cell 0
    go_simp
    all_goals with_reducible rfl
  try simp only [Act.put, List.setIfInBounds_toArray, List.set_cons_zero, List.set_cons_succ]
  refine wpAnyH_take (i := 5) (v := ?_) rfl (by kernel_rfl) (by kernel_rfl) (by kernel_rfl) (fun _ _ _ h => h) (Or.inl ⟨by kernel_rfl, ?_⟩) hS ?_
  rotate_left 1
  · intro w hS
    subst hS
    have x3 := HX.out.drew.cell 3
    have x0 := HX.out.drew.cell 0
    simp only [List.getElem?_toArray, List.getElem?_cons_zero, List.getElem?_cons_succ] at x3 x0
    have y0 := HF.out.s.p.drew.cell 0
    go_simp
    all_goals with_reducible rfl
  try simp only [Act.put, List.setIfInBounds_toArray, List.set_cons_zero, List.set_cons_succ]
  refine wpAnyH_take (i := 6) (v := ?_) rfl (by kernel_rfl) (by kernel_rfl) (by kernel_rfl) (fun _ _ _ h => h) (Or.inl ⟨by kernel_rfl, ?_⟩) hS ?_
  rotate_left 1
  · intro w hS
    subst hS
    have x3 := HX.out.drew.cell 3
    have x0 := HX.out.drew.cell 0
    simp only [List.getElem?_toArray, List.getElem?_cons_zero, List.getElem?_cons_succ] at x3 x0
    have y0 := HF.out.s.p.drew.cell 0
    go_simp
    all_goals with_reducible rfl
  try simp only [Act.put, List.setIfInBounds_toArray, List.set_cons_zero, List.set_cons_succ]
  refine wpAnyH_take (i := 7) (v := ?_) rfl (by kernel_rfl) (by kernel_rfl) (by kernel_rfl) (fun _ _ _ h => h) (Or.inl ⟨by kernel_rfl, ?_⟩) hS ?_
  rotate_left 1
  · intro w hS
    subst hS
    have x3 := HX.out.drew.cell 3
    have x0 := HX.out.drew.cell 0
    simp only [List.getElem?_toArray, List.getElem?_cons_zero, List.getElem?_cons_succ] at x3 x0
    have y0 := HF.out.s.p.drew.cell 0
    go_simp
    all_goals with_reducible rfl
  try simp only [Act.put, List.setIfInBounds_toArray, List.set_cons_zero, List.set_cons_succ]
  refine wpAnyH_take (i := 8) (v := ?_) rfl (by kernel_rfl) (by kernel_rfl) (by kernel_rfl) (fun _ _ _ h => h) (Or.inl ⟨by kernel_rfl, ?_⟩) hS ?_
  rotate_left 1
  · intro w hS
    subst hS
    have x3 := HX.out.drew.cell 3
    have x0 := HX.out.drew.cell 0
    simp only [List.getElem?_toArray, List.getElem?_cons_zero, List.getElem?_cons_succ] at x3 x0
    have y0 := HF.out.s.p.drew.cell 0
    go_simp
    all_goals with_reducible rfl
  try simp only [Act.put, List.setIfInBounds_toArray, List.set_cons_zero, List.set_cons_succ]
  refine wpAnyH_ready (rs := [9]) (by kernel_rfl) (by simp) ?_
  refine AllReadyH.cons rfl (fun K hK => ?_) AllReadyH.nil
  go_simp
  refine (HRF.out).mono ?_
  rintro e _ ⟨rfl, rfl⟩
  refine hK.out _ _ (rfl) (fun hS => ?_)
  clear hK K
  try simp only [Act.put, List.setIfInBounds_toArray, List.set_cons_zero, List.set_cons_succ]
  refine wpAnyH_take (i := 10) (v := ?_) rfl (by kernel_rfl) (by kernel_rfl) (by kernel_rfl) (fun _ _ _ h => h) (Or.inl ⟨by kernel_rfl, ?_⟩) hS ?_
  rotate_left 1
  · intro w hS
    go_simp
    all_goals with_reducible rfl
  try simp only [Act.put, List.setIfInBounds_toArray, List.set_cons_zero, List.set_cons_succ]
  refine wpAnyH_take (i := 11) (v := ?_) rfl (by kernel_rfl) (by kernel_rfl) (by kernel_rfl) (fun _ _ _ h => h) (Or.inl ⟨by kernel_rfl, ?_⟩) hS ?_
  rotate_left 1
  · intro w hS
    go_simp
    all_goals with_reducible rfl
  try simp only [Act.put, List.setIfInBounds_toArray, List.set_cons_zero, List.set_cons_succ]
  refine wpAnyH_done (by kernel_rfl) ?_ _
  clear hS
  have HX1 := Lib.hid HX.out.drew
  have HR1 := Lib.hid HR.out.drew
  have HB1 := Lib.hid HB.out.drew
  clear HX HR HB HF HRF
  generalize W0.drew = W1 at *
  have x0 := HX1.out.cell 0
  have x1 := HX1.out.cell 1
  have x2 := HX1.out.cell 2
  have x3 := HX1.out.cell 3
  have x4 := HX1.out.cell 4
  have r0 := HR1.out.cell 0
  have r1 := HR1.out.cell 1
  have r2 := HR1.out.cell 2
  have r3 := HR1.out.cell 3
  have r4 := HR1.out.cell 4
  simp only [List.getElem?_toArray, List.getElem?_cons_zero, List.getElem?_cons_succ] at x0 x1 x2 x3 x4 r0 r1 r2 r3 r4
  have f0 := HX1.out.frozen 0
  have f3 := HX1.out.frozen 3
  have f4 := HX1.out.frozen 4
  have s0 := HR1.out.frozen 0
  have s1 := HR1.out.frozen 1
  have s2 := HR1.out.frozen 2
  have s3 := HR1.out.frozen 3
  have s4 := HR1.out.frozen 4
  have lx := HX1.out.lt
  have lr := HR1.out.lt
  go_wp2
  have hfin := ((Blk.far (Blk.far HR1.out (p := ⟨w.heap.size, 3, none⟩) (by show w.heap.size + 1 ≠ w.heap.size; omega) (.bool false)) (p := ⟨w.heap.size, 4, none⟩) (by show w.heap.size + 1 ≠ w.heap.size; omega) (.bool true))).entrySet (x := E.zero) (.int .i64 f) (.bool a1) (.bool a2) (.bool false) (.bool true)
  exact bodyPost_ret (results_cell Try.results38 _ rfl hfin Try.underlying71 rfl (by kernel_rfl)) rfl ⟨rfl, (But.entrySet (But.set_ (But.set_ HB1.out (.inr (Nat.le_refl _)) 3 _) (.inr (Nat.le_refl _)) 4 _) (b := w.heap.size + 1) (.inr (Nat.le_succ _)) _ _ _ _ _).below (fun _ h => h.elim) (Nat.le_refl _)⟩
set_option maxRecDepth 100000 in
set_option maxHeartbeats 600000 in
theorem own_two (h : FS w fb lb cap F sb bt q m) (f : Int) (a1 a2 a4 : Bool) {fn k : Nat} (hf : f = (fn : Int)) (hfn : fn < F.n) (hfr : F.r fn ≠ 0) (hr : 1 < refsI F f) (hk : freeK F = some k) :
    Calls Try.prog 38 #[.pointer (some ⟨sb, 0, none⟩), .agg #[.int .i64 f, .bool a1, .bool a2, .bool true, .bool a4]] w fun e w' => e = .returned (.agg #[.int .i64 (k : Int), .bool a1, .bool a2, .bool false, .bool true]) ∧ FrOut w w' fb lb cap (dropF (doubleF F fn k) f) := by
  have HFE := Lib.hid hf
  clear hf
  have bx := (Blk.new w 71 #[.int .i64 f, .bool a1, .bool a2, .bool true, .bool a4]).alloc (.cells #[.int .i64 0, .bool false, .bool false, .bool false, .bool false] 71)
  have br := Blk.new (w.alloc (.cells #[.int .i64 f, .bool a1, .bool a2, .bool true, .bool a4] 71)) 71 #[.int .i64 0, .bool false, .bool false, .bool false, .bool false]
  have hb0 := bl_new (bl_new (Below.refl w.heap.size w) (.cells #[.int .i64 f, .bool a1, .bool a2, .bool true, .bool a4] 71)) (.cells #[.int .i64 0, .bool false, .bool false, .bool false, .bool false] 71)
  rw [World.size_alloc] at br
  have HLT := Lib.hid (show fb < w.heap.size ∧ lb < w.heap.size ∧ sb < w.heap.size from ⟨h.f.lt.1, h.f.lt.2, h.s.p.lt⟩)
  have HH := Lib.hid h
  clear h
  go_enter Try.func38, Try.ntmps38
  go_wp2_with (fail)
  generalize ((w.alloc (.cells #[.int .i64 f, .bool a1, .bool a2, .bool true, .bool a4] 71)).alloc (.cells #[.int .i64 0, .bool false, .bool false, .bool false, .bool false] 71)) = W0 at *
  have HX := Lib.hid bx
  have HR := Lib.hid br
  have HB := Lib.hid (But.of_below (S := fun i => i = lb) hb0)
  have HF := Lib.hid (HH.out.below hb0)
  clear bx br hb0
  have HRF := Lib.hid (frRefs_any HF.out.f.drew f)
  have hdb := fun W1 (h1 : FrAt W1 fb lb cap F) => frDouble_any h1 hfn hfr hk
  rw [← HFE.out] at hdb
  have HDB := Lib.hid hdb
  clear hdb hfn hfr hk
  generalize refsI F f = r at *
  refine wp_region_held_drew (S := fun w' => w' = W0.drew) (by kernel_rfl) (rfl) (fun hS => ?_)
  refine wpAnyH_take (i := 0) (v := ?_) rfl (by kernel_rfl) (by kernel_rfl) (by kernel_rfl) (fun _ _ _ h => h) (Or.inl ⟨by kernel_rfl, ?_⟩) hS ?_
  rotate_left 1
  · intro w hS
    subst hS
    have x3 := HX.out.drew.cell 3
    have x0 := HX.out.drew.cell 0
    simp only [List.getElem?_toArray, List.getElem?_cons_zero, List.getElem?_cons_succ] at x3 x0
    have y0 := HF.out.s.p.drew.cell 0
    go_simp
    all_goals with_reducible rfl
  try simp only [Act.put, List.setIfInBounds_toArray, List.set_cons_zero, List.set_cons_succ]
  refine wpAnyH_take (i := 1) (v := ?_) rfl (by kernel_rfl) (by kernel_rfl) (by kernel_rfl) (fun _ _ _ h => h) (Or.inl ⟨by kernel_rfl, ?_⟩) hS ?_
  rotate_left 1
  · intro w hS
    subst hS
    have x3 := HX.out.drew.cell 3
    have x0 := HX.out.drew.cell 0
    simp only [List.getElem?_toArray, List.getElem?_cons_zero, List.getElem?_cons_succ] at x3 x0
    have y0 := HF.out.s.p.drew.cell 0
    go_simp
    all_goals with_reducible rfl
  try simp only [Act.put, List.setIfInBounds_toArray, List.set_cons_zero, List.set_cons_succ]
  refine wpAnyH_take (i := 2) (v := ?_) rfl (by kernel_rfl) (by kernel_rfl) (by kernel_rfl) (fun _ _ _ h => h) (Or.inl ⟨by kernel_rfl, ?_⟩) hS ?_
  rotate_left 1
  · intro w hS
    subst hS
    have x3 := HX.out.drew.cell 3
    have x0 := HX.out.drew.cell 0
    simp only [List.getElem?_toArray, List.getElem?_cons_zero, List.getElem?_cons_succ] at x3 x0
    have y0 := HF.out.s.p.drew.cell 0
    go_simp
    all_goals with_reducible rfl
  try simp only [Act.put, List.setIfInBounds_toArray, List.set_cons_zero, List.set_cons_succ]
  refine wpAnyH_take (i := 3) (v := ?_) rfl (by kernel_rfl) (by kernel_rfl) (by kernel_rfl) (fun _ _ _ h => h) (Or.inl ⟨by kernel_rfl, ?_⟩) hS ?_
  rotate_left 1
  · intro w hS
    subst hS
    have x3 := HX.out.drew.cell 3
    have x0 := HX.out.drew.cell 0
    simp only [List.getElem?_toArray, List.getElem?_cons_zero, List.getElem?_cons_succ] at x3 x0
    have y0 := HF.out.s.p.drew.cell 0
    go_simp
    all_goals with_reducible rfl
  try simp only [Act.put, List.setIfInBounds_toArray, List.set_cons_zero, List.set_cons_succ]
  refine wpAnyH_take (i := 4) (v := ?_) rfl (by kernel_rfl) (by kernel_rfl) (by kernel_rfl) (fun _ _ _ h => h) (Or.inl ⟨by kernel_rfl, ?_⟩) hS ?_
  rotate_left 1
  · intro w hS
    subst hS
    have x3 := HX.out.drew.cell 3
    have x0 := HX.out.drew.cell 0
    simp only [List.getElem?_toArray, List.getElem?_cons_zero, List.getElem?_cons_succ] at x3 x0
    have y0 := HF.out.s.p.drew.cell 0
    go_simp
    all_goals with_reducible rfl
  try simp only [Act.put, List.setIfInBounds_toArray, List.set_cons_zero, List.set_cons_succ]
  refine wpAnyH_take (i := 5) (v := ?_) rfl (by kernel_rfl) (by kernel_rfl) (by kernel_rfl) (fun _ _ _ h => h) (Or.inl ⟨by kernel_rfl, ?_⟩) hS ?_
  rotate_left 1
  · intro w hS
    subst hS
    have x3 := HX.out.drew.cell 3
    have x0 := HX.out.drew.cell 0
    simp only [List.getElem?_toArray, List.getElem?_cons_zero, List.getElem?_cons_succ] at x3 x0
    have y0 := HF.out.s.p.drew.cell 0
    go_simp
    all_goals with_reducible rfl
  try simp only [Act.put, List.setIfInBounds_toArray, List.set_cons_zero, List.set_cons_succ]
  refine wpAnyH_take (i := 6) (v := ?_) rfl (by kernel_rfl) (by kernel_rfl) (by kernel_rfl) (fun _ _ _ h => h) (Or.inl ⟨by kernel_rfl, ?_⟩) hS ?_
  rotate_left 1
  · intro w hS
    subst hS
    have x3 := HX.out.drew.cell 3
    have x0 := HX.out.drew.cell 0
    simp only [List.getElem?_toArray, List.getElem?_cons_zero, List.getElem?_cons_succ] at x3 x0
    have y0 := HF.out.s.p.drew.cell 0
    go_simp
    all_goals with_reducible rfl
  try simp only [Act.put, List.setIfInBounds_toArray, List.set_cons_zero, List.set_cons_succ]
  refine wpAnyH_take (i := 7) (v := ?_) rfl (by kernel_rfl) (by kernel_rfl) (by kernel_rfl) (fun _ _ _ h => h) (Or.inl ⟨by kernel_rfl, ?_⟩) hS ?_
  rotate_left 1
  · intro w hS
    subst hS
    have x3 := HX.out.drew.cell 3
    have x0 := HX.out.drew.cell 0
    simp only [List.getElem?_toArray, List.getElem?_cons_zero, List.getElem?_cons_succ] at x3 x0
    have y0 := HF.out.s.p.drew.cell 0
    go_simp
    all_goals with_reducible rfl
  try simp only [Act.put, List.setIfInBounds_toArray, List.set_cons_zero, List.set_cons_succ]
  refine wpAnyH_take (i := 8) (v := ?_) rfl (by kernel_rfl) (by kernel_rfl) (by kernel_rfl) (fun _ _ _ h => h) (Or.inl ⟨by kernel_rfl, ?_⟩) hS ?_
  rotate_left 1
  · intro w hS
    subst hS
    have x3 := HX.out.drew.cell 3
    have x0 := HX.out.drew.cell 0
    simp only [List.getElem?_toArray, List.getElem?_cons_zero, List.getElem?_cons_succ] at x3 x0
    have y0 := HF.out.s.p.drew.cell 0
    go_simp
    all_goals with_reducible rfl
  try simp only [Act.put, List.setIfInBounds_toArray, List.set_cons_zero, List.set_cons_succ]
  refine wpAnyH_ready (rs := [9]) (by kernel_rfl) (by simp) ?_
  refine AllReadyH.cons rfl (fun K hK => ?_) AllReadyH.nil
  go_simp
  refine (HRF.out).mono ?_
  rintro e _ ⟨rfl, rfl⟩
  refine hK.out _ _ (rfl) (fun hS => ?_)
  clear hK K
  try simp only [Act.put, List.setIfInBounds_toArray, List.set_cons_zero, List.set_cons_succ]
  refine wpAnyH_take (i := 10) (v := ?_) rfl (by kernel_rfl) (by kernel_rfl) (by kernel_rfl) (fun _ _ _ h => h) (Or.inl ⟨by kernel_rfl, ?_⟩) hS ?_
  rotate_left 1
  · intro w hS
    go_simp
    all_goals with_reducible rfl
  try simp only [Act.put, List.setIfInBounds_toArray, List.set_cons_zero, List.set_cons_succ]
  refine wpAnyH_take (i := 11) (v := ?_) rfl (by kernel_rfl) (by kernel_rfl) (by kernel_rfl) (fun _ _ _ h => h) (Or.inl ⟨by kernel_rfl, ?_⟩) hS ?_
  rotate_left 1
  · intro w hS
    go_simp
    all_goals with_reducible rfl
  try simp only [Act.put, List.setIfInBounds_toArray, List.set_cons_zero, List.set_cons_succ]
  refine wpAnyH_done (by kernel_rfl) ?_ _
  clear hS HRF
  have HX1 := Lib.hid HX.out.drew
  have HR1 := Lib.hid HR.out.drew
  have HB1 := Lib.hid HB.out.drew
  have HF1 := Lib.hid (HF.out.below (Below.refl _ W0).drew)
  clear HX HR HB HF
  generalize W0.drew = W1 at *
  go_wp2_with (fail)
  have HY := Lib.hid (fun W2 (hb : But (fun i => i = lb) W1 W2) => (show W2.cell? ⟨w.heap.size, 0, none⟩ = some (.int .i64 f) ∧ W2.cell? ⟨sb, 0, none⟩ = some (.pointer (some ⟨fb, 0, none⟩)) from
    ⟨(HX1.out.but hb (by have := HLT.out; omega)).cell 0, (HF1.out.s.p.but hb HH.out.d3).cell 0⟩))
  refine wp_region_held_drew (S := fun w' => But (fun i => i = lb) W1 w') (by kernel_rfl) ((But.refl _ W1).drew) (fun hS => ?_)
  refine wpAnyH_take (i := 0) (v := ?_) rfl (by kernel_rfl) (by kernel_rfl) (by kernel_rfl) (fun _ _ _ h => h) (Or.inl ⟨by kernel_rfl, ?_⟩) hS ?_
  rotate_left 1
  · intro w hS
    obtain ⟨x0, y0⟩ := HY.out w hS
    go_simp
    all_goals with_reducible rfl
  try simp only [Act.put, List.setIfInBounds_toArray, List.set_cons_zero, List.set_cons_succ]
  refine wpAnyH_take (i := 1) (v := ?_) rfl (by kernel_rfl) (by kernel_rfl) (by kernel_rfl) (fun _ _ _ h => h) (Or.inl ⟨by kernel_rfl, ?_⟩) hS ?_
  rotate_left 1
  · intro w hS
    obtain ⟨x0, y0⟩ := HY.out w hS
    go_simp
    all_goals with_reducible rfl
  try simp only [Act.put, List.setIfInBounds_toArray, List.set_cons_zero, List.set_cons_succ]
  refine wpAnyH_take (i := 2) (v := ?_) rfl (by kernel_rfl) (by kernel_rfl) (by kernel_rfl) (fun _ _ _ h => h) (Or.inl ⟨by kernel_rfl, ?_⟩) hS ?_
  rotate_left 1
  · intro w hS
    obtain ⟨x0, y0⟩ := HY.out w hS
    go_simp
    all_goals with_reducible rfl
  try simp only [Act.put, List.setIfInBounds_toArray, List.set_cons_zero, List.set_cons_succ]
  refine wpAnyH_take (i := 3) (v := ?_) rfl (by kernel_rfl) (by kernel_rfl) (by kernel_rfl) (fun _ _ _ h => h) (Or.inl ⟨by kernel_rfl, ?_⟩) hS ?_
  rotate_left 1
  · intro w hS
    obtain ⟨x0, y0⟩ := HY.out w hS
    go_simp
    all_goals with_reducible rfl
  try simp only [Act.put, List.setIfInBounds_toArray, List.set_cons_zero, List.set_cons_succ]
  refine wpAnyH_take (i := 4) (v := ?_) rfl (by kernel_rfl) (by kernel_rfl) (by kernel_rfl) (fun _ _ _ h => h) (Or.inl ⟨by kernel_rfl, ?_⟩) hS ?_
  rotate_left 1
  · intro w hS
    obtain ⟨x0, y0⟩ := HY.out w hS
    go_simp
    all_goals with_reducible rfl
  try simp only [Act.put, List.setIfInBounds_toArray, List.set_cons_zero, List.set_cons_succ]
  refine wpAnyH_take (i := 5) (v := ?_) rfl (by kernel_rfl) (by kernel_rfl) (by kernel_rfl) (fun _ _ _ h => h) (Or.inl ⟨by kernel_rfl, ?_⟩) hS ?_
  rotate_left 1
  · intro w hS
    obtain ⟨x0, y0⟩ := HY.out w hS
    go_simp
    all_goals with_reducible rfl
  try simp only [Act.put, List.setIfInBounds_toArray, List.set_cons_zero, List.set_cons_succ]
  refine wpAnyH_ready (rs := [6]) (by kernel_rfl) (by simp) ?_
  refine AllReadyH.cons rfl (fun K hK => ?_) AllReadyH.nil
  go_simp
  refine (HDB.out _ HF1.out.f.drew).mono ?_
  rintro e V ⟨rfl, ho⟩
  refine hK.out _ _ ((But.refl _ W1).drew.trans ho.2 (fun i hi => .inl hi)) (fun hS => ?_)
  clear hK K
  try simp only [Act.put, List.setIfInBounds_toArray, List.set_cons_zero, List.set_cons_succ]
  have HFV := Lib.hid ho.1
  have HBV := Lib.hid ((But.refl (fun i => i = lb) W1).drew.trans ho.2 (fun i hi => .inl hi))
  clear ho
  refine wpAnyH_take (i := 7) (v := ?_) rfl (by kernel_rfl) (by kernel_rfl) (by kernel_rfl) (fun _ _ _ h => h) (Or.inl ⟨by kernel_rfl, ?_⟩) hS ?_
  rotate_left 1
  · intro w hS
    go_simp
    all_goals with_reducible rfl
  try simp only [Act.put, List.setIfInBounds_toArray, List.set_cons_zero, List.set_cons_succ]
  refine wpAnyH_take (i := 8) (v := ?_) rfl (by kernel_rfl) (by kernel_rfl) (by kernel_rfl) (fun _ _ _ h => h) (Or.inl ⟨by kernel_rfl, ?_⟩) hS ?_
  rotate_left 1
  · intro w hS
    go_simp
    all_goals with_reducible rfl
  try simp only [Act.put, List.setIfInBounds_toArray, List.set_cons_zero, List.set_cons_succ]
  refine wpAnyH_take (i := 9) (v := ?_) rfl (by kernel_rfl) (by kernel_rfl) (by kernel_rfl) (fun _ _ _ h => h) (Or.inl ⟨by kernel_rfl, ?_⟩) hS ?_
  rotate_left 1
  · intro w hS
    go_simp
    all_goals with_reducible rfl
  try simp only [Act.put, List.setIfInBounds_toArray, List.set_cons_zero, List.set_cons_succ]
  refine wpAnyH_take (i := 10) (v := ?_) rfl (by kernel_rfl) (by kernel_rfl) (by kernel_rfl) (fun _ _ _ h => h) (Or.inl ⟨by kernel_rfl, ?_⟩) hS ?_
  rotate_left 1
  · intro w hS
    go_simp
    all_goals with_reducible rfl
  try simp only [Act.put, List.setIfInBounds_toArray, List.set_cons_zero, List.set_cons_succ]
  refine wpAnyH_take (i := 11) (v := ?_) rfl (by kernel_rfl) (by kernel_rfl) (by kernel_rfl) (fun _ _ _ h => h) (Or.inl ⟨by kernel_rfl, ?_⟩) hS ?_
  rotate_left 1
  · intro w hS
    go_simp
    all_goals with_reducible rfl
  try simp only [Act.put, List.setIfInBounds_toArray, List.set_cons_zero, List.set_cons_succ]
  refine wpAnyH_done (by kernel_rfl) ?_ _
  go_simp
  clear hS HY HDB
  have HXV := Lib.hid (HX1.out.but HBV.out (by have := HLT.out; omega))
  have HRV := Lib.hid (HR1.out.but HBV.out (by have := HLT.out; omega))
  have HSV := Lib.hid (HF1.out.s.p.but HBV.out HH.out.d3)
  have HB2 := Lib.hid (HB1.out.trans HBV.out (fun i hi => .inl hi))
  clear HX1 HR1 HB1 HF1 HBV
  go_wp2_with (fail)
  have HY := Lib.hid (fun W2 (hb : But (fun i => i = lb) V W2) => (show W2.cell? ⟨w.heap.size, 0, none⟩ = some (.int .i64 f) ∧ W2.cell? ⟨sb, 0, none⟩ = some (.pointer (some ⟨fb, 0, none⟩)) from
    ⟨(HXV.out.but hb (by have := HLT.out; omega)).cell 0, (HSV.out.but hb HH.out.d3).cell 0⟩))
  refine wp_region_held_drew (S := fun w' => But (fun i => i = lb) V w') (by kernel_rfl) ((But.refl _ V).drew) (fun hS => ?_)
  refine wpAnyH_take (i := 0) (v := ?_) rfl (by kernel_rfl) (by kernel_rfl) (by kernel_rfl) (fun _ _ _ h => h) (Or.inl ⟨by kernel_rfl, ?_⟩) hS ?_
  rotate_left 1
  · intro w hS
    obtain ⟨x0, y0⟩ := HY.out w hS
    go_simp
    all_goals with_reducible rfl
  try simp only [Act.put, List.setIfInBounds_toArray, List.set_cons_zero, List.set_cons_succ]
  refine wpAnyH_take (i := 1) (v := ?_) rfl (by kernel_rfl) (by kernel_rfl) (by kernel_rfl) (fun _ _ _ h => h) (Or.inl ⟨by kernel_rfl, ?_⟩) hS ?_
  rotate_left 1
  · intro w hS
    obtain ⟨x0, y0⟩ := HY.out w hS
    go_simp
    all_goals with_reducible rfl
  try simp only [Act.put, List.setIfInBounds_toArray, List.set_cons_zero, List.set_cons_succ]
  refine wpAnyH_take (i := 2) (v := ?_) rfl (by kernel_rfl) (by kernel_rfl) (by kernel_rfl) (fun _ _ _ h => h) (Or.inl ⟨by kernel_rfl, ?_⟩) hS ?_
  rotate_left 1
  · intro w hS
    obtain ⟨x0, y0⟩ := HY.out w hS
    go_simp
    all_goals with_reducible rfl
  try simp only [Act.put, List.setIfInBounds_toArray, List.set_cons_zero, List.set_cons_succ]
  refine wpAnyH_take (i := 3) (v := ?_) rfl (by kernel_rfl) (by kernel_rfl) (by kernel_rfl) (fun _ _ _ h => h) (Or.inl ⟨by kernel_rfl, ?_⟩) hS ?_
  rotate_left 1
  · intro w hS
    obtain ⟨x0, y0⟩ := HY.out w hS
    go_simp
    all_goals with_reducible rfl
  try simp only [Act.put, List.setIfInBounds_toArray, List.set_cons_zero, List.set_cons_succ]
  refine wpAnyH_take (i := 4) (v := ?_) rfl (by kernel_rfl) (by kernel_rfl) (by kernel_rfl) (fun _ _ _ h => h) (Or.inl ⟨by kernel_rfl, ?_⟩) hS ?_
  rotate_left 1
  · intro w hS
    obtain ⟨x0, y0⟩ := HY.out w hS
    go_simp
    all_goals with_reducible rfl
  try simp only [Act.put, List.setIfInBounds_toArray, List.set_cons_zero, List.set_cons_succ]
  refine wpAnyH_take (i := 5) (v := ?_) rfl (by kernel_rfl) (by kernel_rfl) (by kernel_rfl) (fun _ _ _ h => h) (Or.inl ⟨by kernel_rfl, ?_⟩) hS ?_
  rotate_left 1
  · intro w hS
    obtain ⟨x0, y0⟩ := HY.out w hS
    go_simp
    all_goals with_reducible rfl
  try simp only [Act.put, List.setIfInBounds_toArray, List.set_cons_zero, List.set_cons_succ]
  refine wpAnyH_ready (rs := [6]) (by kernel_rfl) (by simp) ?_
  refine AllReadyH.cons rfl (fun K hK => ?_) AllReadyH.nil
  go_simp
  refine (frDrop_any HFV.out.drew f).mono ?_
  rintro e W3 ⟨rfl, ho⟩
  refine hK.out _ _ ((But.refl _ V).drew.trans ho.2 (fun i hi => .inl hi)) (fun hS => ?_)
  clear hK K
  try simp only [Act.put, List.setIfInBounds_toArray, List.set_cons_zero, List.set_cons_succ]
  have HF3 := Lib.hid ho.1
  have HBV := Lib.hid ((But.refl (fun i => i = lb) V).drew.trans ho.2 (fun i hi => .inl hi))
  clear ho
  refine wpAnyH_done (by kernel_rfl) ?_ _
  clear hS HY
  have HX3 := Lib.hid (HXV.out.but HBV.out (by have := HLT.out; omega))
  have HR3 := Lib.hid (HRV.out.but HBV.out (by have := HLT.out; omega))
  have HB4 := Lib.hid (HB2.out.trans HBV.out (fun i hi => .inl hi))
  clear HXV HRV HSV HB2 HBV HFV
  have x0 := HX3.out.cell 0
  have x1 := HX3.out.cell 1
  have x2 := HX3.out.cell 2
  have x3 := HX3.out.cell 3
  have x4 := HX3.out.cell 4
  have r0 := HR3.out.cell 0
  have r1 := HR3.out.cell 1
  have r2 := HR3.out.cell 2
  have r3 := HR3.out.cell 3
  have r4 := HR3.out.cell 4
  simp only [List.getElem?_toArray, List.getElem?_cons_zero, List.getElem?_cons_succ] at x0 x1 x2 x3 x4 r0 r1 r2 r3 r4
  have f0 := HX3.out.frozen 0
  have f3 := HX3.out.frozen 3
  have f4 := HX3.out.frozen 4
  have s0 := HR3.out.frozen 0
  have s1 := HR3.out.frozen 1
  have s2 := HR3.out.frozen 2
  have s3 := HR3.out.frozen 3
  have s4 := HR3.out.frozen 4
  have lx := HX3.out.lt
  have lr := HR3.out.lt
  go_wp2
  have hfin := ((Blk.far (Blk.far (Blk.far HR3.out (p := ⟨w.heap.size, 0, none⟩) (by show w.heap.size + 1 ≠ w.heap.size; omega) (.int .i64 k)) (p := ⟨w.heap.size, 3, none⟩) (by show w.heap.size + 1 ≠ w.heap.size; omega) (.bool false)) (p := ⟨w.heap.size, 4, none⟩) (by show w.heap.size + 1 ≠ w.heap.size; omega) (.bool true))).entrySet (x := E.zero) (.int .i64 (k : Int)) (.bool a1) (.bool a2) (.bool false) (.bool true)
  exact bodyPost_ret (results_cell Try.results38 _ rfl hfin Try.underlying71 rfl (by kernel_rfl)) rfl ⟨rfl, HF3.out.but (But.entrySet (But.set_ (But.set_ (But.set_ (But.refl (fun i => i = w.heap.size ∨ i = w.heap.size + 1) W3) (.inl (.inl rfl)) 0 _) (.inl (.inl rfl)) 3 _) (.inl (.inl rfl)) 4 _) (b := w.heap.size + 1) (.inl (.inr rfl)) _ _ _ _ _) (by have := HLT.out; omega) (by have := HLT.out; omega), (But.entrySet (But.set_ (But.set_ (But.set_ HB4.out (.inr (Nat.le_refl _)) 0 _) (.inr (Nat.le_refl _)) 3 _) (.inr (Nat.le_refl _)) 4 _) (b := w.heap.size + 1) (.inr (Nat.le_succ _)) _ _ _ _ _)⟩
end
end Go.Proofs.Ytlecfdchmcghlaa
