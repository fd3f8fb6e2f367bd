/-
  Walks over package pages: List.
-/
import Derived.Test.YtlecfdchmcghlaaPages6
namespace Go.Proofs.Ytlecfdchmcghlaa
open Go.RowKit Go.Shelf
set_option linter.unusedVariables false
attribute [local go_sem] Oper.semAt_some

theorem all_in (n : Nat) (p0 : Option Addr) (w : World) :
    CallsIn Fence.wide n Try.prog 46 #[.pointer p0] w fun e w' => e = .returned (.func (.func 63) #[] #[.pointer (some ⟨w.heap.size, 0, none⟩)]) ∧ w' = w.alloc (.cells #[.pointer p0] 57) := by
  refine callsIn_of_wp Try.func46 rfl trivial ?_ rfl
  simp only [Try.ntmps46, List.size_toArray, List.length_cons, List.length_nil, Nat.reduceAdd, Nat.reduceSub, Array.replicate_succ, Array.replicate_zero, List.push_toArray, List.append_toArray, List.nil_append, List.cons_append]
  gi_wp2
  go_ret
  exact ⟨rfl, rfl⟩

theorem all_stops (n : Nat) (hn : 3 ≤ n) (Bn n₀ bt : Nat) (q : Nat → Option Nat) (m : M) (w : World) (hBn : Blk w Bn 57 #[.pointer (some ⟨bt, 0, none⟩)]) (hT : Tab w bt q m) (hlo : ∀ k, Own bt q k → k < n₀) (hn₀ : n₀ ≤ w.heap.size) :
    SeqStopsK Fence.wide n Try.prog 63 #[.pointer (some ⟨Bn, 0, none⟩)] encP (KpB n₀ Bn) (fun ys => ys = list m) (fun pre => pre <+: list m) 64 w := fun l J Jx W hW hJ _ hY h0 =>
  all1_in l Bn n₀ bt q m n hn J Jx (fun s A B hs hb => abides_below hJ hs hb) hY W (hBn.below hW hBn.lt) (hT.below hW (Nat.le_refl _)) hlo (by have := hW.size; omega) h0

def mapCells (x : Nat × E) : List Value := [.int .i64 x.1, .int .i64 x.2.f, .bool x.2.w, .bool x.2.s, .bool x.2.c, .bool x.2.d]
theorem infoM : (Try.prog.info? 75).map (fun i => (i.zero, i.size, i.bytes)) = some (some (.agg #[.int .i64 0, .int .i64 0, .bool false, .bool false, .bool false, .bool false]), 6, 24) := by kernel_rfl

set_option maxRecDepth 100000 in
set_option maxHeartbeats 2000000 in
theorem list_in (n : Nat) (hn : 6 ≤ n) (bt : Nat) (q : Nat → Option Nat) (m : M) (w : World) (hT : Tab w bt q m) :
    CallsIn Fence.wide n Try.prog 28 #[.pointer (some ⟨bt, 0, none⟩)] w fun e W' => ∃ v, e = .returned v ∧ W'.ownsRow w.heap.size 75 6 v (list m).length ((list m).flatMap mapCells) ∧ (v = .slice none 0 0 ↔ list m = []) ∧ Below w.heap.size w W' := by
  have h1 : 1 ≤ n := by omega
  obtain ⟨i0, hi, hz0, hz1, hz2⟩ := info_parts infoM
  refine callsIn_of_wp_marks Try.func28 rfl trivial ?_ rfl
  simp only [Try.ntmps28, List.size_toArray, List.length_cons, List.length_nil, Nat.reduceAdd, Nat.reduceSub, Array.replicate_succ, Array.replicate_zero, List.push_toArray, List.append_toArray, List.nil_append, List.cons_append]
  gi_wp2_with (refine ⟨trivial, ?_⟩; gi_at_call 46; refine (all_in (n - 1) _ _).mono ?_; rintro e w' ⟨rfl, rfl⟩)
  have bO := Boxed.new w 72 (.slice none 0 0)
  have bN := Boxed.new (w.alloc (.cells #[.slice none 0 0] 72)) 57 (.pointer (some ⟨bt, 0, none⟩))
  rw [World.size_alloc] at bN
  have hB0 : Below w.heap.size w ((w.alloc (.cells #[.slice none 0 0] 72)).alloc (.cells #[.pointer (some ⟨bt, 0, none⟩)] 57)) := ((Below.refl _ w).alloc (Nat.le_refl _) _).alloc (by simp) _
  have hsz : ((w.alloc (.cells #[.slice none 0 0] 72)).alloc (.cells #[.pointer (some ⟨bt, 0, none⟩)] 57)).heap.size = w.heap.size + 2 := by simp
  have bO' := bO.alloc (.cells #[.pointer (some ⟨bt, 0, none⟩)] 57)
  obtain ⟨W0, hW0⟩ : ∃ W0, (w.alloc (.cells #[.slice none 0 0] 72)).alloc (.cells #[.pointer (some ⟨bt, 0, none⟩)] 57) = W0 := ⟨_, rfl⟩
  rw [hW0] at bO' bN hB0 hsz ⊢
  clear hW0 bO
  refine wpIn_rangeFunc_ownH rfl h1 (gf := 63) (lb := #[.pointer (some ⟨w.heap.size + 1, 0, none⟩)]) rfl trivial (enters_of Try.func63 (by kernel_rfl) rfl)
    (all_stops (n - 1) (by omega) (w.heap.size + 1) w.heap.size bt q m W0 bN (hT.below hB0 (Nat.le_refl _)) (fun k hk => hT.own_lt hk) (by omega)) kpB_t (kpB_b (by omega) (by omega)) (Below.refl _ _) (fun _ => rfl)
    (fun pre W => (∃ v, Boxed W w.heap.size 72 v ∧ W.ownsRow w.heap.size 75 6 v pre.length (pre.flatMap mapCells) ∧ (v = .slice none 0 0 ↔ pre = [])) ∧ Boxed W (w.heap.size + 1) 57 (.pointer (some ⟨bt, 0, none⟩)) ∧ Below w.heap.size w W)
    (fun _ _ _ => False)
    (OwnFrom.and (Own.from (holdsRow_own w.heap.size w.heap.size 72 75 6 (fun pre => pre.length) (fun pre => pre.flatMap mapCells) (fun pre v => v = .slice none 0 0 ↔ pre = [])) _) (OwnFrom.and (Own.from (boxed_own _ _ _) _) (ownFrom_below (Nat.le_refl _) (by omega))))
    (fun _ _ _ _ _ hs _ _ => hs)
    ⟨⟨_, bO', World.ownsRow_nil _ _ _ _, by simp⟩, bN, hB0⟩
    (fun x a' W => ∃ Bx, w.heap.size + 1 < Bx ∧ Blk W Bx 71 x.2.arr ∧ a' = { tmps := #[.pointer (some ⟨bt, 0, none⟩), undef, .slice none 0 0, .pointer (some ⟨w.heap.size, 0, none⟩), .int .i64 x.1, .pointer (some ⟨Bx, 0, none⟩), .pointer (some ⟨bt, 0, none⟩), .func (.func 63) #[] #[.pointer (some ⟨w.heap.size + 1, 0, none⟩)], .int .i64 x.1, x.2.val, undef, undef, undef, undef, undef, undef, undef], defers := [] })
    (fun x a' _ X Y row hs hg hr => by obtain ⟨Bx, h1, h2, h3⟩ := hs; exact ⟨Bx, h1, blk_own Bx 71 (fun (_ : Unit) => x.2.arr) () X Y row h2 hg (fun r e => (hr r e).2), h3⟩)
    ?assign ?body ?done ?stop
  case assign =>
    rintro l pre x W K ⟨⟨v, bv, hrow, hnil⟩, bN1, hB1⟩ hK
    obtain ⟨p, f, c1, c2, c3, c4⟩ := x
    simp only [encP, E.val, E.arr] at hK ⊢
    gi_wp2
    exact hK _ _ ((KeepsOthers.alloc _ _).from _) ⟨(Below.refl _ W).alloc hB1.size _, (Boxed.alloc bN1 _).trans bN1.symm⟩ ⟨⟨v, bv.alloc _, hrow.alloc _, hnil⟩, bN1.alloc _, hB1.alloc hB1.size _⟩ ⟨W.heap.size, bN1.lt, Blk.new W _ _, rfl⟩
  case body =>
    rintro l pre x a' W hl ⟨r, hr⟩ ⟨⟨v, hv, hrow, hnil⟩, bN1, hB1⟩ ⟨Bx, hBx, bX, rfl⟩ hlt
    obtain ⟨p, f, c1, c2, c3, c4⟩ := x
    simp only [E.val, E.arr] at bX ⊢
    have hc := hv.cell
    have x0 := bX.cell 0
    have x1 := bX.cell 1
    have x2 := bX.cell 2
    have x3 := bX.cell 3
    have x4 := bX.cell 4
    simp only [List.getElem?_toArray, List.getElem?_cons_zero, List.getElem?_cons_succ] at x0 x1 x2 x3 x4
    gi_wp2_with (gi_at_builtin; refine wpListIn_append_own _ rfl _ _ 72 rfl w.heap.size 75 i0 _ 6 24 Try.underlying72 hi hz0 hz1 hz2 rfl (by decide) _ _ _ rfl (hrow.alloc _) ⟨W.heap.size, 0, none⟩ 1 1 (mapCells (p, ⟨f, c1, c2, c3, c4⟩)) rfl rfl (cells_new _ _ _) (by simp [mapCells, Value.oneCell']) (by unfold maxLen; omega) (by omega) (by have := hB1.size; simp; omega) ?_; intro v' w1 hown' hgrow _; obtain ⟨g', cap', rfl⟩ := ownsRow_succ hown'; obtain ⟨hv1, hv2, hr2, hk2, hb2⟩ := hv.appended (by decide) hrow hB1.size (Nat.le_refl _) hown' hgrow; have hc1 := hv1.cell; have hf1 := hv1.frozen)

    have bN2 := ((bN1.alloc _).kept hgrow (bN1.not_row (by decide) hrow)).other (show w.heap.size + 1 ≠ w.heap.size by omega) (.slice (some ⟨g', 0, none⟩) (pre.length + 1) cap')
    exact ⟨hk2.from _, ⟨hb2, bN2.trans bN1.symm⟩, ⟨_, hv2, by simpa using hr2, by simp⟩, bN2, hB1.trans hb2⟩
  case done =>
    rintro D ys W hD rfl ⟨⟨v, hv, hrow, hnil⟩, bN1, hB1⟩ hK
    have hc := hv.cell
    gi_wp2
    refine ⟨by simp, .inl ⟨_, _, rfl, run_takeDeferred hK, ?_⟩⟩
    exact ⟨_, results_tmp rfl _ _ _, v, rfl, ownsRow_putObj hrow _ hK rfl, hnil, hB1.trans (belowK_b (w := w) (Nat.le_refl _) W D _ _ (by omega) hK rfl rfl)⟩
  case stop =>
    rintro D c pre W _ _ h _
    exact h.elim
end Go.Proofs.Ytlecfdchmcghlaa
