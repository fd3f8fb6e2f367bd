/-
  Walks over package pages: some, Dirty, Len.
-/
import Derived.Test.YtolejpbdbjkndaaPages7
namespace Go.Proofs.Ytolejpbdbjkndaa
open Go.RowKit Go.Shelf
set_option linter.unusedVariables false
attribute [local go_sem] Oper.semAt_some

def filt (f : E → Bool) (l : List (Nat × E)) : List Int := (l.filter fun x => f x.2).map fun x => (x.1 : Int)
theorem filt_snoc (f : E → Bool) (pre : List (Nat × E)) (x : Nat × E) : filt f (pre ++ [x]) = filt f pre ++ (if f x.2 then [(x.1 : Int)] else []) := by
  unfold filt; rw [List.filter_append, List.map_append]; cases h : f x.2 <;> simp [h]
theorem filt_len (f : E → Bool) (l : List (Nat × E)) : (filt f l).length ≤ l.length := by unfold filt; rw [List.length_map]; exact List.length_filter_le _ _
theorem infoI : (Try.prog.info? 3).map (fun i => (i.zero, i.size, i.bytes)) = some (some (.int .i64 0), 1, 8) := by kernel_rfl

theorem ownsRow_below {w w' : World} {base : Nat} {e : TypeId} {size : Nat} {v : Value} {k : Nat} {xs : List Value} (h : w.ownsRow base e size v k xs) (hb : Below w.heap.size w w') : w'.ownsRow base e size v k xs :=
  h.kept (grownBy_below hb) (by cases v.ownBlock <;> simp)
theorem keepsFrom_below {B : Nat} {W W' : World} (h : Below W.heap.size W W') : KeepsFrom B W W' := ⟨h.size, fun k o _ hk _ => (h.block k (Array.getElem?_eq_some_iff.1 hk).1).trans hk⟩

set_option maxRecDepth 100000 in
set_option maxHeartbeats 2000000 in
theorem some_in (kf : Nat) (f : E → Bool) (hen : ∀ args w, (callFunc kf args).run Try.prog w = .ok (.enter kf args) w) (hcl : ∀ x W, Calls Try.prog kf #[x.val] W fun e w' => e = .returned (.bool (f x)) ∧ Below W.heap.size W w')
    (n : Nat) (hn : 6 ≤ n) (bt : Nat) (q : Nat → Option Nat) (m : M) (w : World) (hT : Tab w bt q m) :
    CallsIn Fence.wide n Try.prog 56 #[.pointer (some ⟨bt, 0, none⟩), .func (.func kf) #[] #[]] w fun e W' => ∃ v, e = .returned v ∧ W'.ownsRow w.heap.size 3 1 v (filt f (list m)).length ((filt f (list m)).map (Value.int .i64)) ∧ (v = .slice none 0 0 ↔ filt f (list m) = []) ∧ Below w.heap.size w W' := by
  have h1 : 1 ≤ n := by omega
  have HCL := Lib.hid hcl
  clear hcl
  obtain ⟨i0, hi, hz0, hz1, hz2⟩ := info_parts infoI
  refine callsIn_of_wp_marks Try.func56 rfl trivial ?_ rfl
  simp only [Try.ntmps56, List.size_toArray, List.length_cons, List.length_nil, Nat.reduceAdd, Nat.reduceSub, Array.replicate_succ, Array.replicate_zero, List.push_toArray, List.append_toArray, List.nil_append, List.cons_append]
  gi_wp2_with (refine ⟨trivial, ?_⟩; gi_at_call 54; refine (all_in (n - 1) _ _).mono ?_; rintro e w' ⟨rfl, rfl⟩)
  have bF := ((Boxed.new w 120 (.func (.func kf) #[] #[])).alloc (.cells #[.slice none 0 0] 53)).alloc (.cells #[.pointer (some ⟨bt, 0, none⟩)] 70)
  have bO := (Boxed.new (w.alloc (.cells #[.func (.func kf) #[] #[]] 120)) 53 (.slice none 0 0)).alloc (.cells #[.pointer (some ⟨bt, 0, none⟩)] 70)
  have bN := Boxed.new ((w.alloc (.cells #[.func (.func kf) #[] #[]] 120)).alloc (.cells #[.slice none 0 0] 53)) 70 (.pointer (some ⟨bt, 0, none⟩))
  simp only [World.size_alloc] at bO bN
  have hB0 : Below w.heap.size w (((w.alloc (.cells #[.func (.func kf) #[] #[]] 120)).alloc (.cells #[.slice none 0 0] 53)).alloc (.cells #[.pointer (some ⟨bt, 0, none⟩)] 70)) := (((Below.refl _ w).alloc (Nat.le_refl _) _).alloc (by simp) _).alloc (by simp; omega) _
  have hsz : (((w.alloc (.cells #[.func (.func kf) #[] #[]] 120)).alloc (.cells #[.slice none 0 0] 53)).alloc (.cells #[.pointer (some ⟨bt, 0, none⟩)] 70)).heap.size = w.heap.size + 3 := by simp
  obtain ⟨W0, hW0⟩ : ∃ W0, ((w.alloc (.cells #[.func (.func kf) #[] #[]] 120)).alloc (.cells #[.slice none 0 0] 53)).alloc (.cells #[.pointer (some ⟨bt, 0, none⟩)] 70) = W0 := ⟨_, rfl⟩
  rw [hW0] at bF bO bN hB0 hsz ⊢
  clear hW0
  refine wpIn_rangeFunc_ownH rfl h1 (gf := 59) (lb := #[.pointer (some ⟨w.heap.size + 1 + 1, 0, none⟩)]) rfl trivial (enters_of Try.func59 (by kernel_rfl) rfl)
    (all_stops (n - 1) (by omega) (w.heap.size + 1 + 1) w.heap.size bt q m W0 bN (hT.below hB0 (Nat.le_refl _)) (fun k hk => hT.own_lt hk) (by omega)) kpB_t (kpB_b (by omega) (by omega)) (Below.refl _ _) (fun _ => rfl)
    (fun pre W => (∃ v, Boxed W (w.heap.size + 1) 53 v ∧ W.ownsRow w.heap.size 3 1 v (filt f pre).length ((filt f pre).map (Value.int .i64)) ∧ (v = .slice none 0 0 ↔ filt f pre = [])) ∧ (Boxed W (w.heap.size + 1 + 1) 70 (.pointer (some ⟨bt, 0, none⟩)) ∧ Boxed W w.heap.size 120 (.func (.func kf) #[] #[])) ∧ Below w.heap.size w W)
    (fun _ _ _ => False)
    (OwnFrom.and (Own.from (holdsRow_own w.heap.size (w.heap.size + 1) 53 3 1 (fun pre => (filt f pre).length) (fun pre => (filt f pre).map (Value.int .i64)) (fun pre v => v = .slice none 0 0 ↔ filt f pre = [])) _) (OwnFrom.and (OwnFrom.and (Own.from (boxed_own _ _ _) _) (Own.from (boxed_own _ _ _) _)) (ownFrom_below (Nat.le_refl _) (by omega))))
    (fun _ _ _ _ _ hs _ _ => hs)
    ⟨⟨_, bO, World.ownsRow_nil _ _ _ _, by simp [filt]⟩, ⟨bN, bF⟩, hB0⟩
    (fun x a' W => ∃ Bx, w.heap.size + 1 + 1 < Bx ∧ Blk W Bx 35 x.2.arr ∧ a' = { tmps := #[.pointer (some ⟨bt, 0, none⟩), .func (.func kf) #[] #[], undef, .pointer (some ⟨w.heap.size, 0, none⟩), .slice none 0 0, .pointer (some ⟨w.heap.size + 1, 0, none⟩), .int .i64 x.1, .pointer (some ⟨Bx, 0, none⟩), .pointer (some ⟨bt, 0, none⟩), .func (.func 59) #[] #[.pointer (some ⟨w.heap.size + 1 + 1, 0, none⟩)], .int .i64 x.1, x.2.val, undef, undef, undef, undef, undef, undef, undef, undef], defers := [] })
    (fun x a' _ X Y row hs hg hr => by obtain ⟨Bx, h1, h2, h3⟩ := hs; exact ⟨Bx, h1, blk_own Bx 35 (fun (_ : Unit) => x.2.arr) () X Y row h2 hg (fun r e => (hr r e).2), h3⟩)
    ?assign ?body ?done ?stop
  case assign =>
    rintro l pre x W K ⟨⟨v, bv, hrow, hnil⟩, ⟨bN1, bF1⟩, hB1⟩ hK
    obtain ⟨p, g, c1, c2, c3, c4⟩ := x
    simp only [encP, E.val, E.arr] at hK ⊢
    gi_wp2
    exact hK _ _ ((KeepsOthers.alloc _ _).from _) ⟨(Below.refl _ W).alloc hB1.size _, (Boxed.alloc bN1 _).trans bN1.symm⟩ ⟨⟨v, bv.alloc _, hrow.alloc _, hnil⟩, ⟨bN1.alloc _, bF1.alloc _⟩, hB1.alloc hB1.size _⟩ ⟨W.heap.size, bN1.lt, Blk.new W _ _, rfl⟩
  case body =>
    rintro l pre x a' W hl ⟨r, hr⟩ ⟨⟨v, hv, hrow, hnil⟩, ⟨bN1, bF1⟩, hB1⟩ ⟨Bx, hBx, bX, rfl⟩ hlt
    have hfs := filt_snoc f pre x
    have hfl := filt_len f pre
    have hcl := fun W => HCL.out x.2 W
    have hc := hv.cell
    have hcF := bF1.cell
    have h1'' : 1 ≤ n - 1 - 1 := by omega
    cases hfx : f x.2 with
    | true =>
      rw [hfx] at hcl hfs
      obtain ⟨p, g, c1, c2, c3, c4⟩ := x
      simp only [E.val, E.arr] at bX hcl ⊢
      have x0 := bX.cell 0
      have x1 := bX.cell 1
      have x2 := bX.cell 2
      have x3 := bX.cell 3
      have x4 := bX.cell 4
      simp only [List.getElem?_toArray, List.getElem?_cons_zero, List.getElem?_cons_succ] at x0 x1 x2 x3 x4
      have HC := Lib.hid hcl
      have HFS := Lib.hid hfs
      clear hcl hfs hfx hnil
      gi_wp2_with (first | (refine ⟨trivial, ?_⟩; refine (CallsIn.inRound l (callsIn_wide.2 (HC.out _))).mono ?_; rintro e w1 ⟨rfl, hb1⟩; have hv0 : Boxed w1 (w.heap.size + 1) 53 v := Blk.below hv hb1 hv.lt; have hrow0 := ownsRow_below hrow hb1; have hc0 := hv0.cell) | (gi_at_builtin; refine wpListIn_append_own _ rfl _ _ 53 rfl w.heap.size 3 i0 _ 1 8 Try.underlying53 hi hz0 hz1 hz2 rfl (by decide) _ _ _ rfl (hrow0.alloc _) ⟨w1.heap.size, 0, none⟩ 1 1 [.int .i64 p] rfl rfl (cells_new _ _ _) (by simp [Value.oneCell']) (by unfold maxLen; omega) (by omega) (by have := hB1.size; have := hb1.size; simp; omega) ?_; intro v' w2 hown' hgrow _; obtain ⟨g', cap', rfl⟩ := ownsRow_succ hown'; obtain ⟨hv1, hv2, hr2, hk2, hb2⟩ := hv0.appended (by decide) hrow0 (Nat.le_trans hB1.size hb1.size) (Nat.le_succ _) hown' hgrow; have hc1 := hv1.cell; have hf1 := hv1.frozen))
      have bN0 : Boxed w1 (w.heap.size + 1 + 1) 70 (.pointer (some ⟨bt, 0, none⟩)) := Blk.below bN1 hb1 bN1.lt
      have bF0 : Boxed w1 w.heap.size 120 (.func (.func kf) #[] #[]) := Blk.below bF1 hb1 bF1.lt
      have bN2 := ((bN0.alloc _).kept hgrow (bN0.not_row (by decide) hrow0)).other (show w.heap.size + 1 + 1 ≠ w.heap.size + 1 by omega) (.slice (some ⟨g', 0, none⟩) ((filt f pre).length + 1) cap')
      have bF2 := ((bF0.alloc _).kept hgrow (bF0.not_row (by decide) hrow0)).other (show w.heap.size ≠ w.heap.size + 1 by omega) (.slice (some ⟨g', 0, none⟩) ((filt f pre).length + 1) cap')
      have hbA := (hb1.mono hB1.size).trans hb2
      exact ⟨(keepsFrom_below hb1).trans (hk2.from _), ⟨hbA, bN2.trans bN1.symm⟩, ⟨_, hv2, by rw [HFS.out]; simpa using hr2, by rw [HFS.out]; simp⟩, ⟨bN2, bF2⟩, hB1.trans hbA⟩
    | false =>
      rw [hfx] at hcl hfs
      obtain ⟨p, g, c1, c2, c3, c4⟩ := x
      simp only [E.val, E.arr] at bX hcl ⊢
      have x0 := bX.cell 0
      have x1 := bX.cell 1
      have x2 := bX.cell 2
      have x3 := bX.cell 3
      have x4 := bX.cell 4
      simp only [List.getElem?_toArray, List.getElem?_cons_zero, List.getElem?_cons_succ] at x0 x1 x2 x3 x4
      have HC := Lib.hid hcl
      have HFS := Lib.hid hfs
      clear hcl hfs hfx
      gi_wp2_with (refine ⟨trivial, ?_⟩; refine (CallsIn.inRound l (callsIn_wide.2 (HC.out _))).mono ?_; rintro e w1 ⟨rfl, hb1⟩)
      have hv0 : Boxed w1 (w.heap.size + 1) 53 v := Blk.below hv hb1 hv.lt
      have bN0 : Boxed w1 (w.heap.size + 1 + 1) 70 (.pointer (some ⟨bt, 0, none⟩)) := Blk.below bN1 hb1 bN1.lt
      have bF0 : Boxed w1 w.heap.size 120 (.func (.func kf) #[] #[]) := Blk.below bF1 hb1 bF1.lt
      exact ⟨keepsFrom_below hb1, ⟨hb1.mono hB1.size, bN0.trans bN1.symm⟩, ⟨_, hv0, by rw [HFS.out]; simpa using ownsRow_below hrow hb1, by rw [HFS.out]; simpa using hnil⟩, ⟨bN0, bF0⟩, hB1.trans (hb1.mono hB1.size)⟩
  case done =>
    rintro D ys W hD rfl ⟨⟨v, hv, hrow, hnil⟩, ⟨bN1, bF1⟩, hB1⟩ hK
    have hc := hv.cell
    gi_wp2
    refine ⟨by simp, .inl ⟨_, _, rfl, run_takeDeferred hK, ?_⟩⟩
    exact ⟨_, results_tmp rfl _ _ _, v, rfl, ownsRow_putObj hrow _ hK rfl, hnil, hB1.trans (belowK_b (w := w) (Nat.le_refl _) W D _ _ (by omega) hK rfl rfl)⟩
  case stop =>
    rintro D c pre W _ _ h _
    exact h.elim

theorem dirty1 (x : E) (W : World) : Calls Try.prog 57 #[x.val] W fun e w' => e = .returned (.bool x.d) ∧ Below W.heap.size W w' := by
  obtain ⟨f, a, b, c, d⟩ := x
  simp only [E.val, E.arr]
  go_enter Try.func57, Try.ntmps57
  go_wp2
  go_ret
  exact ⟨rfl, (Below.refl _ _).alloc (Nat.le_refl _) _⟩
theorem list_any {w : World} {bt : Nat} {q : Nat → Option Nat} {m : M} (hT : Tab w bt q m) : Calls Try.prog 38 #[.pointer (some ⟨bt, 0, none⟩)] w fun e W' => ∃ v, e = .returned v ∧ W'.ownsRow w.heap.size 62 6 v (list m).length ((list m).flatMap mapCells) ∧ (v = .slice none 0 0 ↔ list m = []) ∧ Below w.heap.size w W' :=
  callsIn_wide.1 (list_in 6 (by omega) bt q m w hT)

theorem dirty_any {w : World} {bt : Nat} {q : Nat → Option Nat} {m : M} (hT : Tab w bt q m) : Calls Try.prog 43 #[.pointer (some ⟨bt, 0, none⟩)] w fun e W' => ∃ v, e = .returned v ∧ W'.ownsRow w.heap.size 3 1 v (filt E.d (list m)).length ((filt E.d (list m)).map (Value.int .i64)) ∧ (v = .slice none 0 0 ↔ filt E.d (list m) = []) ∧ Below w.heap.size w W' := by
  have H := Lib.hid (callsIn_wide.1 (some_in 57 E.d (enters_of Try.func57 (by kernel_rfl) rfl) dirty1 6 (by omega) bt q m w hT))
  clear hT
  go_enter Try.func43, Try.ntmps43
  go_wp2_with (go_at_call 56; refine H.out.mono ?_; rintro e w1 ⟨v, rfl, h1, h2, h3⟩)
  go_ret
  exact ⟨v, rfl, h1, h2, h3⟩

theorem ownsLen {w : World} {base : Nat} {e : TypeId} {size : Nat} {v : Value} {k : Nat} {xs : List Value} (h : w.ownsRow base e size v k xs) : ∃ a c, v = .slice a k c := by
  rcases h.2 with ⟨rfl, rfl⟩ | ⟨g, cap, cur, rfl, _⟩
  · exact ⟨_, _, rfl⟩
  · exact ⟨_, _, rfl⟩
theorem filt_true (l : List (Nat × E)) : (filt (fun _ => true) l).length = l.length := by simp [filt]
end Go.Proofs.Ytolejpbdbjkndaa
