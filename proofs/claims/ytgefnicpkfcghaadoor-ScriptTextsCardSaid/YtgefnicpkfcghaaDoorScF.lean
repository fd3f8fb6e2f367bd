/-
  script.of: the operation of four bytes. No condition.
-/
import Derived.Laws.IdiomStrings
import Derived.Test.YtgefnicpkfcghaaDoorSc7
namespace Go.Proofs.YtgefnicpkfcghaaDoor
open Go.RowKit Go.Shelf
set_option linter.unusedVariables false
set_option linter.unusedSimpArgs false
attribute [local go_sem] Oper.semAt_some

def nmB (b1 : Nat) : ByteArray := ⟨#[UInt8.ofNat (97 + b1 % 4)]⟩
def stepOf (b1 b2 b3 : Nat) (y : O) (p : Nat) : O :=
  if p = 99 then { y with co := ((b1 % 8 : Nat) : Int) } else if p = 110 then { y with n := b2 } else if p = 112 then { y with p := ((b2 % 8 : Nat) : Int) + 1 } else if p = 115 then { y with s := ((b3 % 15 : Nat) : Int) + 1 } else if p = 109 then { y with m := b3 } else { y with w := nmB b1 }
def kindOf4 (b0 : Nat) : Int := ((b0 % 12 : Nat) : Int) + 1
def ofO (b0 b1 b2 b3 : Nat) : O := (partsL (kindOf4 b0)).foldl (stepOf b1 b2 b3) (zeroO (kindOf4 b0))
def ofP (b0 b1 b2 b3 : Nat) (ps : List Nat) : O := ps.foldl (stepOf b1 b2 b3) (zeroO (kindOf4 b0))
theorem ofP_snoc (b0 b1 b2 b3 : Nat) (ps : List Nat) (p : Nat) : ofP b0 b1 b2 b3 (ps ++ [p]) = stepOf b1 b2 b3 (ofP b0 b1 b2 b3 ps) p := by
  unfold ofP
  rw [List.foldl_append]
  rfl
theorem one_byte (W : World) (x : Int) (b1 : Nat) (hx : x = ((97 + b1 % 4 : Nat) : Int)) : (convert 46 9 (.slice (some ⟨W.heap.size, 0, none⟩) 1 1)).run Tryd.prog (W.alloc (.cells #[.int .u8 x] 5)) = .ok (.string (nmB b1)) (W.alloc (.cells #[.int .u8 x] 5)) := by
  have h := run_convert_bytes_back (P := Tryd.prog) (W.alloc (.cells #[.int .u8 x] 5)) 46 9 5 ⟨W.heap.size, 0, none⟩ 1 [UInt8.ofNat (97 + b1 % 4)] Tryd.underlying46 Tryd.underlying5 Tryd.underlying9 (fun j hj => by
    have hj0 : j = 0 := by simpa using hj
    subst hj0
    rw [add_eq]
    have hb := (Blk.new W 5 #[.int .u8 x]).cell 0
    rw [hx] at hb ⊢
    have hn : (UInt8.ofNat (97 + b1 % 4)).toNat = 97 + b1 % 4 := by
      rw [UInt8.toNat_ofNat']
      omega
    simp only [List.getElem_cons_zero, hn]
    exact hb)
  exact h

/-- The bytes' slice, the result's cell, and the operation so far. -/
structure FI (w : World) (v : Value) (y : O) (W : World) : Prop where
  b : Blk W w.heap.size 46 #[v]
  r : Blk W (w.heap.size + 1) 24 (zeroO 0).cells.toArray
  x : Blk W (w.heap.size + 1 + 1) 24 y.cells.toArray
  l : Below w.heap.size w W
section
variable {w W W' : World} {v : Value} {y : O}
theorem FI.walks {row : Option Nat} {B : Nat} (h : FI w v y W) (hB : w.heap.size ≤ B) (hg : W.grownBy W' row) (hr : ∀ r, row = some r → B ≤ r ∧ ∃ o : Obj, W.heap[r]? = some o ∧ o.isCells = false) : FI w v y W' :=
  ⟨blk_own _ _ (fun _ : Unit => _) () _ _ _ h.b hg (fun r e => (hr r e).2), blk_own _ _ (fun _ : Unit => _) () _ _ _ h.r hg (fun r e => (hr r e).2), blk_own _ _ (fun _ : Unit => _) () _ _ _ h.x hg (fun r e => (hr r e).2), h.l.grown hg h.l.size (fun k e => Nat.le_trans hB (hr k e).1)⟩
theorem FI.below (h : FI w v y W) (hb : Below W.heap.size W W') : FI w v y W' := ⟨h.b.below hb h.b.lt, h.r.below hb h.r.lt, h.x.below hb h.x.lt, h.l.trans (hb.mono h.l.size)⟩
theorem FI.setX (h : FI w v y W) {y' : O} {i : Nat} {u : Value} (hy : Blk (W.setCell ⟨w.heap.size + 1 + 1, i, none⟩ u) (w.heap.size + 1 + 1) 24 y'.cells.toArray) : FI w v y' (W.setCell ⟨w.heap.size + 1 + 1, i, none⟩ u) :=
  ⟨h.b.far (by simp; omega) _, h.r.far (by simp) _, hy, h.l.setCell (by simp; omega) _⟩
end

theorem bl_new1 (W : World) (o : Obj) : Below W.heap.size W (W.alloc o) := (Below.refl _ _).alloc (Nat.le_refl _) o
set_option maxRecDepth 100000 in
set_option maxHeartbeats 8000000 in
theorem of_in (n : Nat) (hn : 6 ≤ n) {w : World} (g o ca b0 b1 b2 b3 : Nat) (h0 : b0 < 256) (h1' : b1 < 256) (h2 : b2 < 256) (h3 : b3 < 256) (hg : g < w.heap.size)
    (hb0 : w.cell? ⟨g, o, none⟩ = some (.int .u8 (b0 : Int))) (hb1 : w.cell? ⟨g, o + 1, none⟩ = some (.int .u8 (b1 : Int))) (hb2 : w.cell? ⟨g, o + 2, none⟩ = some (.int .u8 (b2 : Int))) (hb3 : w.cell? ⟨g, o + 3, none⟩ = some (.int .u8 (b3 : Int))) :
    CallsIn Fence.wide n Tryd.prog 48 #[.slice (some ⟨g, o, none⟩) 4 ca] w fun e w' => e = .returned (.agg (ofO b0 b1 b2 b3).cells.toArray) ∧ Below w.heap.size w w' := by
  have h1 : 1 ≤ n := by omega
  have HBY := Lib.hid (fun W (hW : Below w.heap.size w W) => show W.cell? ⟨g, o, none⟩ = some (.int .u8 (b0 : Int)) ∧ W.cell? ⟨g, o + 1, none⟩ = some (.int .u8 (b1 : Int)) ∧ W.cell? ⟨g, o + 2, none⟩ = some (.int .u8 (b2 : Int)) ∧ W.cell? ⟨g, o + 3, none⟩ = some (.int .u8 (b3 : Int)) from
    ⟨(hW.cell (p := ⟨g, o, none⟩) hg).trans hb0, (hW.cell (p := ⟨g, o + 1, none⟩) hg).trans hb1, (hW.cell (p := ⟨g, o + 2, none⟩) hg).trans hb2, (hW.cell (p := ⟨g, o + 3, none⟩) hg).trans hb3⟩)
  clear hb0 hb1 hb2 hb3
  have ht0 : (b0 : Int).tmod 12 = ((b0 % 12 : Nat) : Int) := (Int.ofNat_tmod b0 12).symm
  obtain ⟨k0, hk0⟩ : ∃ k0, k0 = b0 % 12 := ⟨_, rfl⟩
  rw [← hk0] at ht0
  have hk12 : k0 < 12 := by omega
  have HK0 := Lib.hid hk0
  clear hk0
  obtain ⟨c0, c1, c2, c3⟩ := HBY.out ((w.alloc (.cells #[.slice (some ⟨g, o, none⟩) 4 ca] 46)).alloc (.cells (zeroO 0).cells.toArray 24)) (bl_2 w _ _)
  simp only [zeroO, O.cells] at c0 c1 c2 c3
  refine callsIn_of_wp_marks Tryd.func48 rfl trivial ?_ rfl
  simp only [Tryd.ntmps48, List.size_toArray, List.length_cons, List.length_nil, Nat.reduceAdd, Nat.reduceSub, Array.replicate_succ, Array.replicate_zero, List.push_toArray, List.append_toArray, List.nil_append, List.cons_append]
  gi_wp2_with (refine ⟨trivial, ?_⟩; gi_at_call 26; refine (parts_in (n - 1) _ _).mono ?_; rintro e w' ⟨rfl, rfl⟩)
  have hB4 := (((Blk.new w 46 #[.slice (some ⟨g, o, none⟩) 4 ca]).alloc (.cells #[.int .i64 0, .int .i64 0, .int .i64 0, .int .i64 0, .int .i64 0, .int .u32 0, .string ⟨#[]⟩] 24)).alloc (.cells #[.int .i64 ((k0 : Int) + 1), .int .i64 0, .int .i64 0, .int .i64 0, .int .i64 0, .int .u32 0, .string ⟨#[]⟩] 24)).alloc (.cells #[.int .i64 ((k0 : Int) + 1)] 3)
  have hR4 := ((Blk.new (w.alloc (.cells #[.slice (some ⟨g, o, none⟩) 4 ca] 46)) 24 #[.int .i64 0, .int .i64 0, .int .i64 0, .int .i64 0, .int .i64 0, .int .u32 0, .string ⟨#[]⟩]).alloc (.cells #[.int .i64 ((k0 : Int) + 1), .int .i64 0, .int .i64 0, .int .i64 0, .int .i64 0, .int .u32 0, .string ⟨#[]⟩] 24)).alloc (.cells #[.int .i64 ((k0 : Int) + 1)] 3)
  have hX4 := (Blk.new ((w.alloc (.cells #[.slice (some ⟨g, o, none⟩) 4 ca] 46)).alloc (.cells #[.int .i64 0, .int .i64 0, .int .i64 0, .int .i64 0, .int .i64 0, .int .u32 0, .string ⟨#[]⟩] 24)) 24 #[.int .i64 ((k0 : Int) + 1), .int .i64 0, .int .i64 0, .int .i64 0, .int .i64 0, .int .u32 0, .string ⟨#[]⟩]).alloc (.cells #[.int .i64 ((k0 : Int) + 1)] 3)
  have hK4 := Blk.new (((w.alloc (.cells #[.slice (some ⟨g, o, none⟩) 4 ca] 46)).alloc (.cells #[.int .i64 0, .int .i64 0, .int .i64 0, .int .i64 0, .int .i64 0, .int .u32 0, .string ⟨#[]⟩] 24)).alloc (.cells #[.int .i64 ((k0 : Int) + 1), .int .i64 0, .int .i64 0, .int .i64 0, .int .i64 0, .int .u32 0, .string ⟨#[]⟩] 24)) 3 #[.int .i64 ((k0 : Int) + 1)]
  simp only [World.size_alloc] at hB4 hR4 hX4 hK4
  have hL4 : Below w.heap.size w ((((w.alloc (.cells #[.slice (some ⟨g, o, none⟩) 4 ca] 46)).alloc (.cells #[.int .i64 0, .int .i64 0, .int .i64 0, .int .i64 0, .int .i64 0, .int .u32 0, .string ⟨#[]⟩] 24)).alloc (.cells #[.int .i64 ((k0 : Int) + 1), .int .i64 0, .int .i64 0, .int .i64 0, .int .i64 0, .int .u32 0, .string ⟨#[]⟩] 24)).alloc (.cells #[.int .i64 ((k0 : Int) + 1)] 3)) := ((bl_2 w _ _).alloc (by simp; omega) _).alloc (by simp; omega) _
  have hs4 : ((((w.alloc (.cells #[.slice (some ⟨g, o, none⟩) 4 ca] 46)).alloc (.cells #[.int .i64 0, .int .i64 0, .int .i64 0, .int .i64 0, .int .i64 0, .int .u32 0, .string ⟨#[]⟩] 24)).alloc (.cells #[.int .i64 ((k0 : Int) + 1), .int .i64 0, .int .i64 0, .int .i64 0, .int .i64 0, .int .u32 0, .string ⟨#[]⟩] 24)).alloc (.cells #[.int .i64 ((k0 : Int) + 1)] 3)).heap.size = w.heap.size + 4 := by simp
  generalize ((((w.alloc (.cells #[.slice (some ⟨g, o, none⟩) 4 ca] 46)).alloc (.cells #[.int .i64 0, .int .i64 0, .int .i64 0, .int .i64 0, .int .i64 0, .int .u32 0, .string ⟨#[]⟩] 24)).alloc (.cells #[.int .i64 ((k0 : Int) + 1), .int .i64 0, .int .i64 0, .int .i64 0, .int .i64 0, .int .u32 0, .string ⟨#[]⟩] 24)).alloc (.cells #[.int .i64 ((k0 : Int) + 1)] 3)) = W4 at *
  obtain ⟨kk, hkk⟩ : ∃ kk : Int, kk = (k0 : Int) + 1 := ⟨_, rfl⟩
  rw [← hkk] at hX4 hK4 ⊢
  have HKK := Lib.hid (show kindOf4 b0 = kk from by unfold kindOf4; rw [hkk, ← HK0.out])
  clear hkk
  have hI4 : FI w (.slice (some ⟨g, o, none⟩) 4 ca) (ofP b0 b1 b2 b3 []) W4 := ⟨hB4, hR4, by unfold ofP; rw [HKK.out]; exact hX4, hL4⟩
  clear hB4 hR4 hX4 hL4 c0 c1 c2 c3
  refine wpIn_rangeFunc_ownH rfl h1 (gf := 49) (lb := #[.pointer (some ⟨w.heap.size + 1 + 1 + 1, 0, none⟩)]) rfl trivial (enters_of Tryd.func49 (by kernel_rfl) rfl)
    (parts1_stops (n - 1) (by omega) (w.heap.size + 1 + 1 + 1) kk W4 hK4 (fun _ _ => True)) (fun _ _ => trivial) (fun _ _ _ _ _ _ _ _ => trivial) (Below.refl _ _) (fun _ => rfl)
    (fun (pre : List Nat) W => FI w (.slice (some ⟨g, o, none⟩) 4 ca) (ofP b0 b1 b2 b3 pre) W)
    (fun c pre W => False)
    (fun pre A B row hs hg hr => hs.walks (by omega) hg hr)
    (fun c pre A B row hs hg hr => hs)
    hI4
    (fun b a' W => a' = { tmps := #[.slice (some ⟨g, o, none⟩) 4 ca, .pointer (some ⟨w.heap.size, 0, none⟩), .pointer (some ⟨w.heap.size + 1, 0, none⟩), .pointer (some ⟨w.heap.size + 1 + 1, 0, none⟩), .int .u8 (b : Int), .slice (some ⟨g, o, none⟩) 4 ca, .pointer (some ⟨g, o, none⟩), .int .u8 (b0 : Int), .int .i64 (b0 : Int), .int .i64 (k0 : Int), .int .i64 kk, .agg #[.int .i64 kk, .int .i64 0, .int .i64 0, .int .i64 0, .int .i64 0, .int .u32 0, .string ⟨#[]⟩], .pointer (some ⟨w.heap.size + 1 + 1, 0, none⟩), .int .i64 kk, .func (.func 49) #[] #[.pointer (some ⟨w.heap.size + 1 + 1 + 1, 0, none⟩)], .int .u8 (b : Int), undef, undef, undef, undef, undef, undef, undef, undef, undef, undef, undef, undef, undef, undef, undef, undef, undef, undef, undef, undef, undef, undef, undef, undef, undef, undef, undef, undef, undef, undef, undef, undef, undef, undef, undef, undef, undef, undef, undef, undef, undef, undef, undef, undef, undef, undef, undef, undef, undef, undef], defers := [] })
    (fun b a' _ A B row hs hg hr => hs)
    ?assign ?body ?done ?stop
  case assign =>
    rintro l pre b W K' hI hK'
    simp only [encP] at hK' ⊢
    gi_wp2
    exact hK' _ _ (KeepsFrom.refl _ _) trivial hI rfl
  case body =>
    rintro l pre b a' W hl ⟨r, hr⟩ hI rfl hlt
    dsimp only
    obtain ⟨y, hy⟩ : ∃ y, y = ofP b0 b1 b2 b3 pre := ⟨_, rfl⟩
    rw [← hy] at hI
    have HY := Lib.hid hy
    have HI := Lib.hid hI
    obtain ⟨c0, c1, c2, c3⟩ := HBY.out W hI.l
    have hc := hI.b.cell 0
    have hlt2 := hI.x.lt
    simp only [List.getElem?_toArray, List.getElem?_cons_zero] at hc
    obtain ⟨x0, x1, x2, x3, x4, x5, x6⟩ := ocells hI.x
    have hfx := fun j => hI.x.frozen j
    have ht1 : (b1 : Int).tmod 8 = ((b1 % 8 : Nat) : Int) := (Int.ofNat_tmod b1 8).symm
    have ht2 : (b2 : Int).tmod 8 = ((b2 % 8 : Nat) : Int) := (Int.ofNat_tmod b2 8).symm
    have ht3 : (b3 : Int).tmod 15 = ((b3 % 15 : Nat) : Int) := (Int.ofNat_tmod b3 15).symm
    have ht4 : (b1 : Int).tmod 4 = ((b1 % 4 : Nat) : Int) := (Int.ofNat_tmod b1 4).symm
    have hm1 : b1 % 8 < 8 := Nat.mod_lt _ (by decide)
    have hm2 : b2 % 8 < 8 := Nat.mod_lt _ (by decide)
    have hm3 : b3 % 15 < 15 := Nat.mod_lt _ (by decide)
    have hm4 : b1 % 4 < 4 := Nat.mod_lt _ (by decide)
    have HNM := Lib.hid (fun V (x : Int) (hx : x = ((97 + b1 % 4 : Nat) : Int)) => one_byte V x b1 hx)
    clear hI hy hI4 hK4
    have hcases : b = 99 ∨ b = 110 ∨ b = 112 ∨ b = 115 ∨ b = 109 ∨ (¬ b = 99 ∧ ¬ b = 110 ∧ ¬ b = 112 ∧ ¬ b = 115 ∧ ¬ b = 109) := by omega
    rcases hcases with rfl | rfl | rfl | rfl | rfl | ⟨i1, i2, i3, i4, i5⟩
    · have hI6 := HI.out.setX (y' := stepOf b1 b2 b3 y 99) (i := 1) (u := .int .i64 ((b1 % 8 : Nat) : Int)) (by have := HI.out.x.set_ 1 (.int .i64 ((b1 % 8 : Nat) : Int)); simpa [O.cells, stepOf] using this)
      have HI6 := Lib.hid hI6
      clear hI6
      generalize b1 % 8 = q1 at *
      clear ht2 ht3 ht4
      gi_wp2
      exact ⟨(KeepsOthers.setCell _ _ _).from _, trivial, by show FI _ _ (ofP b0 b1 b2 b3 (pre ++ [_])) _; rw [ofP_snoc, ← HY.out]; exact HI6.out⟩
    · have hI6 := HI.out.setX (y' := stepOf b1 b2 b3 y 110) (i := 2) (u := .int .i64 (b2 : Int)) (by have := HI.out.x.set_ 2 (.int .i64 (b2 : Int)); simpa [O.cells, stepOf] using this)
      have HI6 := Lib.hid hI6
      clear hI6
      clear ht1 ht2 ht3 ht4
      gi_wp2
      exact ⟨(KeepsOthers.setCell _ _ _).from _, trivial, by show FI _ _ (ofP b0 b1 b2 b3 (pre ++ [_])) _; rw [ofP_snoc, ← HY.out]; exact HI6.out⟩
    · have hI6 := HI.out.setX (y' := stepOf b1 b2 b3 y 112) (i := 3) (u := .int .i64 (((b2 % 8 : Nat) : Int) + 1)) (by have := HI.out.x.set_ 3 (.int .i64 (((b2 % 8 : Nat) : Int) + 1)); simpa [O.cells, stepOf] using this)
      have HI6 := Lib.hid hI6
      clear hI6
      generalize b2 % 8 = q2 at *
      clear ht1 ht3 ht4
      gi_wp2
      exact ⟨(KeepsOthers.setCell _ _ _).from _, trivial, by show FI _ _ (ofP b0 b1 b2 b3 (pre ++ [_])) _; rw [ofP_snoc, ← HY.out]; exact HI6.out⟩
    · have hI6 := HI.out.setX (y' := stepOf b1 b2 b3 y 115) (i := 4) (u := .int .i64 (((b3 % 15 : Nat) : Int) + 1)) (by have := HI.out.x.set_ 4 (.int .i64 (((b3 % 15 : Nat) : Int) + 1)); simpa [O.cells, stepOf] using this)
      have HI6 := Lib.hid hI6
      clear hI6
      generalize b3 % 15 = q3 at *
      clear ht1 ht2 ht4
      gi_wp2
      exact ⟨(KeepsOthers.setCell _ _ _).from _, trivial, by show FI _ _ (ofP b0 b1 b2 b3 (pre ++ [_])) _; rw [ofP_snoc, ← HY.out]; exact HI6.out⟩
    · have hI6 := HI.out.setX (y' := stepOf b1 b2 b3 y 109) (i := 5) (u := .int .u32 (b3 : Int)) (by have := HI.out.x.set_ 5 (.int .u32 (b3 : Int)); simpa [O.cells, stepOf] using this)
      have HI6 := Lib.hid hI6
      clear hI6
      clear ht1 ht2 ht3 ht4
      gi_wp2
      exact ⟨(KeepsOthers.setCell _ _ _).from _, trivial, by show FI _ _ (ofP b0 b1 b2 b3 (pre ++ [_])) _; rw [ofP_snoc, ← HY.out]; exact HI6.out⟩
    · have j1 : ¬ (b : Int) = 99 := by omega
      have j2 : ¬ (b : Int) = 110 := by omega
      have j3 : ¬ (b : Int) = 112 := by omega
      have j4 : ¬ (b : Int) = 115 := by omega
      have j5 : ¬ (b : Int) = 109 := by omega
      have hst : stepOf b1 b2 b3 y b = { y with w := nmB b1 } := by unfold stepOf; rw [if_neg i1, if_neg i2, if_neg i3, if_neg i4, if_neg i5]
      have hI5 := HI.out.setX (y' := stepOf b1 b2 b3 y b) (i := 6) (u := .string (nmB b1)) (by rw [hst]; have := HI.out.x.set_ 6 (.string (nmB b1)); simpa [O.cells] using this)
      have hI6 := hI5.below (bl_new1 _ (.cells #[.int .u8 (97 + ((b1 % 4 : Nat) : Int))] 5))
      have HI6 := Lib.hid hI6
      have hcv := fun V => HNM.out V (97 + ((b1 % 4 : Nat) : Int)) (by omega)
      generalize nmB b1 = nb at *
      clear hI6 hI5 hst i1 i2 i3 i4 i5 ht1 ht2 ht3
      generalize b1 % 4 = q4 at *
      gi_wp2
      exact ⟨((KeepsOthers.setCell _ _ _).trans (KeepsOthers.alloc _ _)).from _, trivial, by show FI _ _ (ofP b0 b1 b2 b3 (pre ++ [_])) _; rw [ofP_snoc, ← HY.out]; exact HI6.out⟩
  case done =>
    rintro D ys W hD rfl hI hK
    have hfin : ofP b0 b1 b2 b3 (partsL kk) = ofO b0 b1 b2 b3 := by unfold ofP ofO; rw [HKK.out]
    rw [hfin] at hI
    obtain ⟨z, hz⟩ : ∃ z, z = ofO b0 b1 b2 b3 := ⟨_, rfl⟩
    rw [← hz] at hI
    have HZ := Lib.hid hz
    obtain ⟨zk, zco, zn, zp, zs, zm, zw⟩ := z
    have hxc := ocells hI.x
    have hrc := ocells hI.r
    have hfr := fun j => hI.r.frozen j
    have hlt2 := hI.x.lt
    simp only [zeroO] at hxc hrc
    have HI := Lib.hid hI
    have HK := Lib.hid hK
    have hDl : D < W.heap.size := (Array.getElem?_eq_some_iff.1 hK).1
    clear hI hK hfin hz hI4 hK4
    dsimp only
    gi_wp2
    have hr9 := set7_blk HI.out.r (.int .i64 zk) (.int .i64 zco) (.int .i64 zn) (.int .i64 zp) (.int .i64 zs) (.int .u32 zm) (.string zw)
    have hl9 := set7_below (b := w.heap.size + 1) HI.out.l (by omega) (.int .i64 zk) (.int .i64 zco) (.int .i64 zn) (.int .i64 zp) (.int .i64 zs) (.int .u32 zm) (.string zw)
    have hK9 := (set7_keeps W (w.heap.size + 1) (.int .i64 zk) (.int .i64 zco) (.int .i64 zn) (.int .i64 zp) (.int .i64 zs) (.int .u32 zm) (.string zw)).same D _ HK.out rfl
    generalize (((((((W).setCell ⟨w.heap.size + 1, 0, none⟩ (.int .i64 zk)).setCell ⟨w.heap.size + 1, 1, none⟩ (.int .i64 zco)).setCell ⟨w.heap.size + 1, 2, none⟩ (.int .i64 zn)).setCell ⟨w.heap.size + 1, 3, none⟩ (.int .i64 zp)).setCell ⟨w.heap.size + 1, 4, none⟩ (.int .i64 zs)).setCell ⟨w.heap.size + 1, 5, none⟩ (.int .u32 zm)).setCell ⟨w.heap.size + 1, 6, none⟩ (.string zw) = W9 at *
    refine ⟨by simp, .inl ⟨_, _, rfl, run_takeDeferred hK9, ?_⟩⟩
    refine ⟨_, results_cell_row Tryd.results48 _ _ (w.heap.size + 1) 24 #[.int .i64 zk, .int .i64 zco, .int .i64 zn, .int .i64 zp, .int .i64 zs, .int .u32 zm, .string zw] (0, 0) _ rfl ((World.putObj_heap_other (by omega)).trans hr9) Tryd.underlying24 rfl (by kernel_rfl), ?_⟩
    exact ⟨by rw [← HZ.out]; rfl, hl9.trans (belowK_b (w := w) (Nat.le_refl _) W9 D _ _ (by omega) hK9 rfl rfl)⟩
  case stop =>
    rintro D c pre W _ _ h _
    exact h.elim
end Go.Proofs.YtgefnicpkfcghaaDoor
