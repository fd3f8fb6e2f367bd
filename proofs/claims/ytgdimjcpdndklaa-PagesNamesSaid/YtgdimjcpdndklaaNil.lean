/-
  Walks over package pages: List, Len, Dirty of none. No condition.
-/
import Derived.Test.YtgdimjcpdndklaaPages11
namespace Go.Proofs.Ytgdimjcpdndklaa
open Go.RowKit Go.Shelf
set_option linter.unusedVariables false
set_option linter.unusedSimpArgs false
attribute [local go_sem] Oper.semAt_some

set_option maxRecDepth 100000 in
set_option maxHeartbeats 1000000 in
theorem all1_nil (l Bn : Nat) (n : Nat) (hn : 3 ≤ n) (J Jx : List (Nat × E) → World → Prop)
    (hJa : ∀ s W W', J s W → Below W.heap.size W W' → J s W')
    (W : World) (hBn : Blk W Bn 24 #[.pointer none]) (h0 : J [] W) :
    CallsIn Fence.wide n Try.prog 41 #[.func (.yield l) #[] #[], .pointer (some ⟨Bn, 0, none⟩)] W fun e W' => (∃ v, e = .returned v) ∧
      ((∃ ys, ys = [] ∧ J ys W') ∨ (∃ pre, pre = [] ∧ Jx pre W')) := by
  refine callsIn_of_wp Try.func41 rfl trivial ?_ rfl
  simp only [Try.ntmps41, List.size_toArray, List.length_cons, List.length_nil, Nat.reduceAdd, Nat.reduceSub, Array.replicate_succ, Array.replicate_zero, List.push_toArray, List.append_toArray, List.nil_append, List.cons_append]
  gi_wp2
  refine wpIn_scope_straight ?_
  gi_wp2
  refine wpIn_label ?_
  gi_wp2
  gi_loopw [6] (fun c wr => ∃ k : Nat, k ≤ 64 ∧ c = .int .i64 k ∧ J [] wr ∧ Blk wr Bn 24 #[.pointer none])
    (fun c _ => 64 - (intOf c).toNat)
  case atStart => exact ⟨0, by omega, rfl, h0, hBn⟩
  case round =>
    obtain ⟨k, hk, rfl, hJ, hBr⟩ := hrel
    have hcB := hBr.cell 0
    simp only [List.getElem?_toArray, List.getElem?_cons_zero] at hcB
    by_cases hlt : k < 64
    · have hg := fun (W1 : World) => get_nil (w := W1) (k : Int)
      simp only [gotV, Option.getD_none, Option.isSome_none, E.val, E.zero, E.arr] at hg
      have HG := Lib.hid hg
      clear hg hBn h0
      gi_wp2_with (refine ⟨trivial, fun _ => by omega, ?_⟩; gi_at_call 13; refine (callsIn_wide.2 (HG.out _)).mono ?_; rintro e w1 ⟨rfl, hb1⟩)
      go_roundw
      case rel =>
        have hb2 := (hb1.alloc hb1.size (.cells E.zero.arr 29))
        exact ⟨k + 1, by omega, by go_num, hJa _ _ _ hJ hb2, hBr.below hb2 hBr.lt⟩
      case measure => simp [intOf]; omega
    · have hk64 : k = 64 := by omega
      subst hk64
      gi_wp2
      rw [Exit.noGoto_normal]
      go_end0
      exact ⟨⟨_, rfl⟩, .inl ⟨_, rfl, hJ⟩⟩
theorem all_stops_nil (n : Nat) (hn : 3 ≤ n) (Bn n₀ : Nat) (w : World) (hBn : Blk w Bn 24 #[.pointer none]) :
    SeqStopsK Fence.wide n Try.prog 41 #[.pointer (some ⟨Bn, 0, none⟩)] encP (KpB n₀ Bn) (fun ys => ys = []) (fun pre => pre = []) 0 w := fun l J Jx W hW hJ _ hY h0 =>
  all1_nil l Bn n hn J Jx (fun s A B hs hb => abides_below hJ hs hb) W (hBn.below hW hBn.lt) h0

set_option maxRecDepth 100000 in
set_option maxHeartbeats 2000000 in
theorem list_in_nil (n : Nat) (hn : 6 ≤ n) (w : World) :
    CallsIn Fence.wide n Try.prog 14 #[.pointer none] w fun e W' => e = .returned (.slice none 0 0) ∧ Below w.heap.size w W' := by
  have h1 : 1 ≤ n := by omega
  obtain ⟨i0, hi, hz0, hz1, hz2⟩ := info_parts infoM
  refine callsIn_of_wp_marks Try.func14 rfl trivial ?_ rfl
  simp only [Try.ntmps14, List.size_toArray, List.length_cons, List.length_nil, Nat.reduceAdd, Nat.reduceSub, Array.replicate_succ, Array.replicate_zero, List.push_toArray, List.append_toArray, List.nil_append, List.cons_append]
  gi_wp2_with (refine ⟨trivial, ?_⟩; gi_at_call 32; refine (all_in (n - 1) _ _).mono ?_; rintro e w' ⟨rfl, rfl⟩)
  have bO := Boxed.new w 33 (.slice none 0 0)
  have bN := Boxed.new (w.alloc (.cells #[.slice none 0 0] 33)) 24 (.pointer none)
  rw [World.size_alloc] at bN
  have hB0 : Below w.heap.size w ((w.alloc (.cells #[.slice none 0 0] 33)).alloc (.cells #[.pointer none] 24)) := ((Below.refl _ w).alloc (Nat.le_refl _) _).alloc (by simp) _
  have hsz : ((w.alloc (.cells #[.slice none 0 0] 33)).alloc (.cells #[.pointer none] 24)).heap.size = w.heap.size + 2 := by simp
  have bO' := bO.alloc (.cells #[.pointer none] 24)
  obtain ⟨W0, hW0⟩ : ∃ W0, (w.alloc (.cells #[.slice none 0 0] 33)).alloc (.cells #[.pointer none] 24) = W0 := ⟨_, rfl⟩
  rw [hW0] at bO' bN hB0 hsz ⊢
  clear hW0 bO
  refine wpIn_rangeFunc_ownH rfl h1 (gf := 41) (lb := #[.pointer (some ⟨w.heap.size + 1, 0, none⟩)]) rfl trivial (enters_of Try.func41 (by kernel_rfl) rfl)
    (all_stops_nil (n - 1) (by omega) (w.heap.size + 1) w.heap.size W0 bN) kpB_t (kpB_b (by omega) (by omega)) (Below.refl _ _) (fun _ => rfl)
    (fun pre W => (∃ v, Boxed W w.heap.size 33 v ∧ W.ownsRow w.heap.size 42 6 v pre.length (pre.flatMap mapCells) ∧ (v = .slice none 0 0 ↔ pre = [])) ∧ Boxed W (w.heap.size + 1) 24 (.pointer none) ∧ Below w.heap.size w W)
    (fun _ _ _ => False)
    (OwnFrom.and (Own.from (holdsRow_own w.heap.size w.heap.size 33 42 6 (fun pre => pre.length) (fun pre => pre.flatMap mapCells) (fun pre v => v = .slice none 0 0 ↔ pre = [])) _) (OwnFrom.and (Own.from (boxed_own _ _ _) _) (ownFrom_below (Nat.le_refl _) (by omega))))
    (fun _ _ _ _ _ hs _ _ => hs)
    ⟨⟨_, bO', World.ownsRow_nil _ _ _ _, by simp⟩, bN, hB0⟩
    (fun x a' W => ∃ Bx, w.heap.size + 1 < Bx ∧ Blk W Bx 29 x.2.arr ∧ a' = { tmps := #[.pointer none, undef, .slice none 0 0, .pointer (some ⟨w.heap.size, 0, none⟩), .int .i64 x.1, .pointer (some ⟨Bx, 0, none⟩), .pointer none, .func (.func 41) #[] #[.pointer (some ⟨w.heap.size + 1, 0, none⟩)], .int .i64 x.1, x.2.val, undef, undef, undef, undef, undef, undef, undef], defers := [] })
    (fun x a' _ X Y row hs hg hr => by obtain ⟨Bx, h1, h2, h3⟩ := hs; exact ⟨Bx, h1, blk_own Bx 29 (fun (_ : Unit) => x.2.arr) () X Y row h2 hg (fun r e => (hr r e).2), h3⟩)
    ?assign ?body ?done ?stop
  case assign =>
    rintro l pre x W K ⟨⟨v, bv, hrow, hnil⟩, bN1, hB1⟩ hK
    obtain ⟨p, f, c1, c2, c3, c4⟩ := x
    simp only [encP, E.val, E.arr] at hK ⊢
    gi_wp2
    exact hK _ _ ((KeepsOthers.alloc _ _).from _) ⟨(Below.refl _ W).alloc hB1.size _, (Boxed.alloc bN1 _).trans bN1.symm⟩ ⟨⟨v, bv.alloc _, hrow.alloc _, hnil⟩, bN1.alloc _, hB1.alloc hB1.size _⟩ ⟨W.heap.size, bN1.lt, Blk.new W _ _, rfl⟩
  case body =>
    rintro l pre x a' W hl hr hI hA hlt
    exact absurd hlt (Nat.not_lt_zero _)
  case done =>
    rintro D ys W hD rfl ⟨⟨v, hv, hrow, hnil⟩, bN1, hB1⟩ hK
    obtain rfl := hnil.2 (by first | rfl | simp [filt])
    have hc := hv.cell
    gi_wp2
    refine ⟨by simp, .inl ⟨_, _, rfl, run_takeDeferred hK, ?_⟩⟩
    exact ⟨_, results_tmp rfl _ _ _, rfl, hB1.trans (belowK_b (w := w) (Nat.le_refl _) W D _ _ (by omega) hK rfl rfl)⟩
  case stop =>
    rintro D c pre W _ _ h _
    exact h.elim
set_option maxRecDepth 100000 in
set_option maxHeartbeats 2000000 in
theorem some_in_nil (kf : Nat) (f : E → Bool) (hen : ∀ args w, (callFunc kf args).run Try.prog w = .ok (.enter kf args) w) (hcl : ∀ x W, Calls Try.prog kf #[x.val] W fun e w' => e = .returned (.bool (f x)) ∧ Below W.heap.size W w')
    (n : Nat) (hn : 6 ≤ n) (w : World) :
    CallsIn Fence.wide n Try.prog 33 #[.pointer none, .func (.func kf) #[] #[]] w fun e W' => e = .returned (.slice none 0 0) ∧ Below w.heap.size w W' := by
  have h1 : 1 ≤ n := by omega
  have HCL := Lib.hid hcl
  clear hcl
  obtain ⟨i0, hi, hz0, hz1, hz2⟩ := info_parts infoI
  refine callsIn_of_wp_marks Try.func33 rfl trivial ?_ rfl
  simp only [Try.ntmps33, List.size_toArray, List.length_cons, List.length_nil, Nat.reduceAdd, Nat.reduceSub, Array.replicate_succ, Array.replicate_zero, List.push_toArray, List.append_toArray, List.nil_append, List.cons_append]
  gi_wp2_with (refine ⟨trivial, ?_⟩; gi_at_call 32; refine (all_in (n - 1) _ _).mono ?_; rintro e w' ⟨rfl, rfl⟩)
  have bF := ((Boxed.new w 57 (.func (.func kf) #[] #[])).alloc (.cells #[.slice none 0 0] 43)).alloc (.cells #[.pointer none] 24)
  have bO := (Boxed.new (w.alloc (.cells #[.func (.func kf) #[] #[]] 57)) 43 (.slice none 0 0)).alloc (.cells #[.pointer none] 24)
  have bN := Boxed.new ((w.alloc (.cells #[.func (.func kf) #[] #[]] 57)).alloc (.cells #[.slice none 0 0] 43)) 24 (.pointer none)
  simp only [World.size_alloc] at bO bN
  have hB0 : Below w.heap.size w (((w.alloc (.cells #[.func (.func kf) #[] #[]] 57)).alloc (.cells #[.slice none 0 0] 43)).alloc (.cells #[.pointer none] 24)) := (((Below.refl _ w).alloc (Nat.le_refl _) _).alloc (by simp) _).alloc (by simp; omega) _
  have hsz : (((w.alloc (.cells #[.func (.func kf) #[] #[]] 57)).alloc (.cells #[.slice none 0 0] 43)).alloc (.cells #[.pointer none] 24)).heap.size = w.heap.size + 3 := by simp
  obtain ⟨W0, hW0⟩ : ∃ W0, ((w.alloc (.cells #[.func (.func kf) #[] #[]] 57)).alloc (.cells #[.slice none 0 0] 43)).alloc (.cells #[.pointer none] 24) = W0 := ⟨_, rfl⟩
  rw [hW0] at bF bO bN hB0 hsz ⊢
  clear hW0
  refine wpIn_rangeFunc_ownH rfl h1 (gf := 41) (lb := #[.pointer (some ⟨w.heap.size + 1 + 1, 0, none⟩)]) rfl trivial (enters_of Try.func41 (by kernel_rfl) rfl)
    (all_stops_nil (n - 1) (by omega) (w.heap.size + 1 + 1) w.heap.size W0 bN) kpB_t (kpB_b (by omega) (by omega)) (Below.refl _ _) (fun _ => rfl)
    (fun pre W => (∃ v, Boxed W (w.heap.size + 1) 43 v ∧ W.ownsRow w.heap.size 3 1 v (filt f pre).length ((filt f pre).map (Value.int .i64)) ∧ (v = .slice none 0 0 ↔ filt f pre = [])) ∧ (Boxed W (w.heap.size + 1 + 1) 24 (.pointer none) ∧ Boxed W w.heap.size 57 (.func (.func kf) #[] #[])) ∧ Below w.heap.size w W)
    (fun _ _ _ => False)
    (OwnFrom.and (Own.from (holdsRow_own w.heap.size (w.heap.size + 1) 43 3 1 (fun pre => (filt f pre).length) (fun pre => (filt f pre).map (Value.int .i64)) (fun pre v => v = .slice none 0 0 ↔ filt f pre = [])) _) (OwnFrom.and (OwnFrom.and (Own.from (boxed_own _ _ _) _) (Own.from (boxed_own _ _ _) _)) (ownFrom_below (Nat.le_refl _) (by omega))))
    (fun _ _ _ _ _ hs _ _ => hs)
    ⟨⟨_, bO, World.ownsRow_nil _ _ _ _, by simp [filt]⟩, ⟨bN, bF⟩, hB0⟩
    (fun x a' W => ∃ Bx, w.heap.size + 1 + 1 < Bx ∧ Blk W Bx 29 x.2.arr ∧ a' = { tmps := #[.pointer none, .func (.func kf) #[] #[], undef, .pointer (some ⟨w.heap.size, 0, none⟩), .slice none 0 0, .pointer (some ⟨w.heap.size + 1, 0, none⟩), .int .i64 x.1, .pointer (some ⟨Bx, 0, none⟩), .pointer none, .func (.func 41) #[] #[.pointer (some ⟨w.heap.size + 1 + 1, 0, none⟩)], .int .i64 x.1, x.2.val, undef, undef, undef, undef, undef, undef, undef, undef], defers := [] })
    (fun x a' _ X Y row hs hg hr => by obtain ⟨Bx, h1, h2, h3⟩ := hs; exact ⟨Bx, h1, blk_own Bx 29 (fun (_ : Unit) => x.2.arr) () X Y row h2 hg (fun r e => (hr r e).2), h3⟩)
    ?assign ?body ?done ?stop
  case assign =>
    rintro l pre x W K ⟨⟨v, bv, hrow, hnil⟩, ⟨bN1, bF1⟩, hB1⟩ hK
    obtain ⟨p, g, c1, c2, c3, c4⟩ := x
    simp only [encP, E.val, E.arr] at hK ⊢
    gi_wp2
    exact hK _ _ ((KeepsOthers.alloc _ _).from _) ⟨(Below.refl _ W).alloc hB1.size _, (Boxed.alloc bN1 _).trans bN1.symm⟩ ⟨⟨v, bv.alloc _, hrow.alloc _, hnil⟩, ⟨bN1.alloc _, bF1.alloc _⟩, hB1.alloc hB1.size _⟩ ⟨W.heap.size, bN1.lt, Blk.new W _ _, rfl⟩
  case body =>
    rintro l pre x a' W hl hr hI hA hlt
    exact absurd hlt (Nat.not_lt_zero _)
  case done =>
    rintro D ys W hD rfl ⟨⟨v, hv, hrow, hnil⟩, ⟨bN1, bF1⟩, hB1⟩ hK
    obtain rfl := hnil.2 (by first | rfl | simp [filt])
    have hc := hv.cell
    gi_wp2
    refine ⟨by simp, .inl ⟨_, _, rfl, run_takeDeferred hK, ?_⟩⟩
    exact ⟨_, results_tmp rfl _ _ _, rfl, hB1.trans (belowK_b (w := w) (Nat.le_refl _) W D _ _ (by omega) hK rfl rfl)⟩
  case stop =>
    rintro D c pre W _ _ h _
    exact h.elim


theorem list_nilT (w : World) : Calls Try.prog 14 #[.pointer none] w fun e w' => e = .returned (.slice none 0 0) ∧ Below w.heap.size w w' :=
  callsIn_wide.1 (list_in_nil 6 (by omega) w)
theorem dirty_nilT (w : World) : Calls Try.prog 22 #[.pointer none] w fun e w' => e = .returned (.slice none 0 0) ∧ Below w.heap.size w w' := by
  have H := Lib.hid (callsIn_wide.1 (some_in_nil 35 E.d (enters_of Try.func35 (by kernel_rfl) rfl) dirty1 6 (by omega) w))
  go_enter Try.func22, Try.ntmps22
  go_wp2_with (go_at_call 33; refine H.out.mono ?_; rintro e w1 ⟨rfl, h3⟩)
  go_ret
  exact ⟨rfl, h3⟩
theorem len_nilT (w : World) : Calls Try.prog 21 #[.pointer none] w fun e w' => e = .returned (.int .i64 0) ∧ Below w.heap.size w w' := by
  have H := Lib.hid (callsIn_wide.1 (some_in_nil 34 (fun _ => true) (enters_of Try.func34 (by kernel_rfl) rfl) len1 6 (by omega) w))
  go_enter Try.func21, Try.ntmps21
  go_wp2_with (go_at_call 33; refine H.out.mono ?_; rintro e w1 ⟨rfl, h3⟩)
  go_ret
  exact ⟨rfl, h3⟩
theorem clean_nilT (w : World) : Calls Try.prog 20 #[.pointer none] w fun e w' => e = .returned (.int .i64 0) ∧ Below w.heap.size w w' := by
  have H := Lib.hid (dirty_nilT w)
  go_enter Try.func20, Try.ntmps20
  go_wp2_with (go_at_call 22; refine H.out.mono ?_; rintro e w1 ⟨rfl, h3⟩)
  go_loopw [10] (fun c wr => c = .int .i64 0 ∧ wr = w1) (fun _ _ => 0)
  case atStart => exact ⟨rfl, rfl⟩
  case round =>
    obtain ⟨rfl, rfl⟩ := hrel
    go_wp2
    go_ret
    exact ⟨rfl, h3⟩
end Go.Proofs.Ytgdimjcpdndklaa
