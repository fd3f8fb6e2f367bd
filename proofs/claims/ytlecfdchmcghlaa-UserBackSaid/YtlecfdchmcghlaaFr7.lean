/-
  Used, Free of frames. Condition: the frames lie in blocks of their own.
-/
import Derived.Test.YtlecfdchmcghlaaFr6
import Derived.Test.YtlecfdchmcghlaaPages8
namespace Go.Proofs.Ytlecfdchmcghlaa
open Go.RowKit Go.Lib Go.Shelf
set_option linter.unusedVariables false
set_option linter.unusedSimpArgs false
attribute [local go_sem] Oper.semAt_some

theorem used_in (n : Nat) (p0 : Option Addr) (w : World) :
    CallsIn Fence.wide n Try.prog 62 #[.pointer p0] w fun e w' => e = .returned (.func (.func 69) #[] #[.pointer (some ⟨w.heap.size, 0, none⟩)]) ∧ w' = w.alloc (.cells #[.pointer p0] 32) := by
  refine callsIn_of_wp Try.func62 rfl trivial ?_ rfl
  simp only [Try.ntmps62, List.size_toArray, List.length_cons, List.length_nil, Nat.reduceAdd, Nat.reduceSub, Array.replicate_succ, Array.replicate_zero, List.push_toArray, List.append_toArray, List.nil_append, List.cons_append]
  gi_wp2
  go_ret
  exact ⟨rfl, rfl⟩
def usedL (F : Fs) : List Nat := usedN F F.n
theorem used_stops (n : Nat) (hn : 3 ≤ n) (Bn n₀ fb lb cap : Nat) (F : Fs) (w : World) (hBn : Blk w Bn 32 #[.pointer (some ⟨fb, 0, none⟩)]) (hT : FrAt w fb lb cap F) (h1 : fb < n₀) (h2 : lb < n₀) (hn₀ : n₀ ≤ w.heap.size) :
    SeqStopsK Fence.wide n Try.prog 69 #[.pointer (some ⟨Bn, 0, none⟩)] encU (KpB n₀ Bn) (fun ys => ys = usedL F) (fun pre => pre <+: usedL F) 256 w := fun l J Jx W hW hJ _ hY h0 =>
  used1_in l Bn n₀ fb lb cap F n hn J Jx (fun s A B hs hb => abides_below hJ hs hb) hY W (hBn.below hW hBn.lt) (hT.below hW) h1 h2 (by have := hW.size; omega) h0
def cellU (k : Nat) : List Value := [.int .i64 k]

set_option maxRecDepth 100000 in
set_option maxHeartbeats 4000000 in
theorem frUsed_in (n : Nat) (hn : 6 ≤ n) {fb lb cap : Nat} {F : Fs} (w : World) (hT : FrAt w fb lb cap F) :
    CallsIn Fence.wide n Try.prog 42 #[.pointer (some ⟨fb, 0, none⟩)] w fun e W' => ∃ v, e = .returned v ∧ W'.ownsRow w.heap.size 3 1 v (usedL F).length ((usedL F).flatMap cellU) ∧ Below w.heap.size w W' := by
  have h1 : 1 ≤ n := by omega
  obtain ⟨i0, hi, hz0, hz1, hz2⟩ := info_parts infoI
  refine callsIn_of_wp_marks Try.func42 rfl trivial ?_ rfl
  simp only [Try.ntmps42, List.size_toArray, List.length_cons, List.length_nil, Nat.reduceAdd, Nat.reduceSub, Array.replicate_succ, Array.replicate_zero, List.push_toArray, List.append_toArray, List.nil_append, List.cons_append]
  gi_wp2_with (refine ⟨trivial, ?_⟩; gi_at_call 62; refine (used_in (n - 1) _ _).mono ?_; rintro e w' ⟨rfl, rfl⟩)
  have bO := Boxed.new w 94 (.slice none 0 0)
  have bN := Boxed.new (w.alloc (.cells #[.slice none 0 0] 94)) 32 (.pointer (some ⟨fb, 0, none⟩))
  rw [World.size_alloc] at bN
  have hB0 : Below w.heap.size w ((w.alloc (.cells #[.slice none 0 0] 94)).alloc (.cells #[.pointer (some ⟨fb, 0, none⟩)] 32)) := ((Below.refl _ w).alloc (Nat.le_refl _) _).alloc (by simp) _
  have hsz : ((w.alloc (.cells #[.slice none 0 0] 94)).alloc (.cells #[.pointer (some ⟨fb, 0, none⟩)] 32)).heap.size = w.heap.size + 2 := by simp
  have bO' := bO.alloc (.cells #[.pointer (some ⟨fb, 0, none⟩)] 32)
  obtain ⟨W0, hW0⟩ : ∃ W0, (w.alloc (.cells #[.slice none 0 0] 94)).alloc (.cells #[.pointer (some ⟨fb, 0, none⟩)] 32) = W0 := ⟨_, rfl⟩
  rw [hW0] at bO' bN hB0 hsz ⊢
  clear hW0 bO
  refine wpIn_rangeFunc_ownH rfl h1 (gf := 69) (lb := #[.pointer (some ⟨w.heap.size + 1, 0, none⟩)]) rfl trivial (enters_of Try.func69 (by kernel_rfl) rfl)
    (used_stops (n - 1) (by omega) (w.heap.size + 1) w.heap.size fb lb cap F W0 bN (hT.below hB0) hT.lt.1 hT.lt.2 (by omega)) kpB_t (kpB_b (by omega) (by omega)) (Below.refl _ _) (fun _ => rfl)
    (fun pre W => (∃ v, Boxed W w.heap.size 94 v ∧ W.ownsRow w.heap.size 3 1 v pre.length (pre.flatMap cellU) ∧ (v = .slice none 0 0 ↔ pre = [])) ∧ Boxed W (w.heap.size + 1) 32 (.pointer (some ⟨fb, 0, none⟩)) ∧ Below w.heap.size w W)
    (fun _ _ _ => False)
    (OwnFrom.and (Own.from (holdsRow_own w.heap.size w.heap.size 94 3 1 (fun pre => pre.length) (fun pre => pre.flatMap cellU) (fun pre v => v = .slice none 0 0 ↔ pre = [])) _) (OwnFrom.and (Own.from (boxed_own _ _ _) _) (ownFrom_below (Nat.le_refl _) (by omega))))
    (fun _ _ _ _ _ hs _ _ => hs)
    ⟨⟨_, bO', World.ownsRow_nil _ _ _ _, by simp⟩, bN, hB0⟩
    (fun x a' W => a' = { tmps := #[.pointer (some ⟨fb, 0, none⟩), undef, .slice none 0 0, .pointer (some ⟨w.heap.size, 0, none⟩), .int .i64 x, .pointer (some ⟨fb, 0, none⟩), .func (.func 69) #[] #[.pointer (some ⟨w.heap.size + 1, 0, none⟩)], .int .i64 x, undef, undef, undef, undef, undef], defers := [] })
    (fun x a' _ X Y row hs hg hr => hs)
    ?assign ?body ?done ?stop
  case assign =>
    rintro l pre x W K ⟨⟨v, bv, hrow, hnil⟩, bN1, hB1⟩ hK
    simp only [encU] at hK ⊢
    gi_wp2
    exact hK _ _ (keepsFrom_below (Below.refl _ _)) ⟨Below.refl _ _, rfl⟩ ⟨⟨v, bv, hrow, hnil⟩, bN1, hB1⟩ rfl
  case body =>
    rintro l pre x a' W hl ⟨r, hr⟩ ⟨⟨v, hv, hrow, hnil⟩, bN1, hB1⟩ rfl hlt
    have hc := hv.cell
    gi_wp2_with (gi_at_builtin; refine wpListIn_append_own _ rfl _ _ 94 rfl w.heap.size 3 i0 _ 1 8 Try.underlying94 hi hz0 hz1 hz2 rfl (by decide) _ _ _ rfl (hrow.alloc _) ⟨W.heap.size, 0, none⟩ 1 1 (cellU x) rfl rfl (cells_new _ _ _) (by simp [cellU, Value.oneCell']) (by unfold maxLen; omega) (by omega) (by have := hB1.size; simp; omega) ?_; intro v' w1 hown' hgrow _; obtain ⟨g', cap', rfl⟩ := ownsRow_succ hown'; obtain ⟨hv1, hv2, hr2, hk2, hb2⟩ := hv.appended (by decide) hrow hB1.size (Nat.le_refl _) hown' hgrow; have hc1 := hv1.cell; have hf1 := hv1.frozen)
    have bN2 := ((bN1.alloc _).kept hgrow (bN1.not_row (by decide) hrow)).other (show w.heap.size + 1 ≠ w.heap.size by omega) (.slice (some ⟨g', 0, none⟩) (pre.length + 1) cap')
    exact ⟨hk2.from _, ⟨hb2, bN2.trans bN1.symm⟩, ⟨_, hv2, by simpa using hr2, by simp⟩, bN2, hB1.trans hb2⟩
  case done =>
    rintro D ys W hD rfl ⟨⟨v, hv, hrow, hnil⟩, bN1, hB1⟩ hK
    have hc := hv.cell
    gi_wp2
    refine ⟨by simp, .inl ⟨_, _, rfl, run_takeDeferred hK, ?_⟩⟩
    exact ⟨_, results_tmp rfl _ _ _, v, rfl, ownsRow_putObj hrow _ hK rfl, hB1.trans (belowK_b (w := w) (Nat.le_refl _) W D _ _ (by omega) hK rfl rfl)⟩
  case stop =>
    rintro D c pre W _ _ h _
    exact h.elim
theorem cellU_len : ∀ l : List Nat, (l.flatMap cellU).length = l.length
  | [] => rfl
  | x :: l => by rw [List.flatMap_cons, List.length_append, cellU_len l, List.length_cons]; unfold cellU; simp [Nat.add_comm]
section
variable {w : World} {fb lb cap : Nat} {F : Fs}
theorem frUsed_any (h : FrAt w fb lb cap F) : Calls Try.prog 42 #[.pointer (some ⟨fb, 0, none⟩)] w fun e W' => ∃ v, e = .returned v ∧ W'.ownsRow w.heap.size 3 1 v (usedL F).length ((usedL F).flatMap cellU) ∧ Below w.heap.size w W' :=
  callsIn_wide.1 (frUsed_in 6 (by omega) w h)
/-- How many are free. -/
def freeN (F : Fs) : Int := F.n - (usedL F).length

set_option maxRecDepth 100000 in
theorem frFree_any (h : FrAt w fb lb cap F) : Calls Try.prog 25 #[.pointer (some ⟨fb, 0, none⟩)] w fun e w' => e = .returned (.int .i64 (freeN F)) ∧ Below w.heap.size w w' := by
  have HL := Lib.hid (frLen_any h)
  have HU := Lib.hid (frUsed_any h)
  have hpos := h.ok.pos
  have hul := usedN_len F F.n
  unfold freeN
  have hul2 : (usedL F).length ≤ F.n := hul
  clear h hul
  go_enter Try.func25, Try.ntmps25
  go_wp2_with (fail)
  refine HL.out.mono ?_
  rintro e _ ⟨rfl, rfl⟩
  go_wp2_with (fail)
  refine HU.out.mono ?_
  rintro e W1 ⟨v, rfl, hrow, hb⟩
  obtain ⟨A, c, rfl⟩ := ownsLen hrow
  go_wp2
  go_ret
  exact ⟨rfl, hb⟩
end
end Go.Proofs.Ytlecfdchmcghlaa
