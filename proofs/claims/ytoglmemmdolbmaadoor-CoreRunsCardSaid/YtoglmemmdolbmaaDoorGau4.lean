/-
  Walks over package gauss and its reference: numbers made, their parts. No condition.
-/
import Derived.Test.YtoglmemmdolbmaaDoorIter
import Derived.Laws.Externs
import Derived.Test.YtoglmemmdolbmaaDoorFlo4
import Derived.RangeFuncNested
import Derived.OwnWalkIn
import Derived.IntWalk
namespace Go.Proofs.YtoglmemmdolbmaaDoor
section
open Go.RowKit
set_option linter.unusedVariables false
set_option linter.unusedSimpArgs false

theorem floor_entry (x : Nat) (s : Bool) (m : Nat) (e : Int) (hx : FloatKind.f64.decode x = .number s m e) : Extern.MathFloor.toIntegral "math.archFloor" .down #[.float .f64 x] = pure (.float .f64 (FloatKind.f64.encode ((Ieee.Datum.number s m e).integral .down))) := by
  unfold Extern.MathFloor.toIntegral
  delta Extern.MathFloor.toIntegral.match_2
  dsimp only [List.size_toArray, List.length_cons, List.length_nil]
  rw [dif_pos (show #[Value.float FloatKind.f64 x].size = 1 from rfl)]
  have hg : ∀ h1 h2, #[Value.float FloatKind.f64 x].getLit (n := 1) 0 h1 h2 = Value.float .f64 x := fun _ _ => rfl
  rw [hg]
  delta Extern.MathFloor.toIntegral._sparseCasesOn_2 Extern.MathFloor.toIntegral._sparseCasesOn_3
  dsimp only
  rw [hx]
theorem floor_run (w : World) (x : Nat) (s : Bool) (m : Nat) (e : Int) (hx : FloatKind.f64.decode x = .number s m e) :
    (callFunc 113 #[.float .f64 x]).run Tryd.prog w = .ok (.value (.float .f64 (FloatKind.f64.encode ((Ieee.Datum.number s m e).integral .down)))) w := by
  rw [run_callFunc_extern (e := Extern.MathFloor.toIntegral "math.archFloor" .down) Tryd.func113 (by kernel_rfl) (by kernel_rfl) (by kernel_rfl) (by kernel_rfl), floor_entry x s m e hx]
  rfl
set_option maxRecDepth 100000 in
theorem floor_any {w : World} (x : Nat) (s : Bool) (m : Nat) (e : Int) (hx : FloatKind.f64.decode x = .number s m e) :
    Calls Tryd.prog 104 #[.float .f64 x] w fun en w' => en = .returned (.float .f64 (FloatKind.f64.encode ((Ieee.Datum.number s m e).integral .down))) ∧ w = w' := by
  have hf := floor_run w x s m e hx
  clear hx
  go_enter Tryd.func104, Tryd.ntmps104
  go_wp2
  go_ret
  exact ⟨rfl, rfl⟩
end
end Go.Proofs.YtoglmemmdolbmaaDoor
namespace Go.Proofs.YtoglmemmdolbmaaDoor
section
open Go.RowKit Go.Shelf
set_option linter.unusedVariables false
set_option linter.unusedSimpArgs false
attribute [local go_sem] Oper.semAt_some

theorem parts_in (n : Nat) (a b : Nat) (w : World) :
    CallsIn Fence.wide n Tryd.prog 103 #[.complex .f64 a b] w fun e w' => e = .returned (.func (.func 112) #[] #[.pointer (some ⟨w.heap.size, 0, none⟩)]) ∧ w' = w.alloc (.cells #[.complex .f64 a b] 25) := by
  refine callsIn_of_wp Tryd.func103 rfl trivial ?_ rfl
  simp only [Tryd.ntmps103, List.size_toArray, List.length_cons, List.length_nil, Nat.reduceAdd, Nat.reduceSub, Array.replicate_succ, Array.replicate_zero, List.push_toArray, List.append_toArray, List.nil_append, List.cons_append]
  gi_wp2
  go_ret
  exact ⟨rfl, rfl⟩

def encF (x : Nat) : Array Value := #[.float .f64 x]
set_option maxRecDepth 100000 in
theorem parts1_in (l Bn n₀ a b : Nat) (n : Nat) (hn : 2 ≤ n) (J Jx : List Nat → World → Prop)
    (hY : ∀ pre x W, J pre W → pre.length < 2 → YieldAt Fence.wide (n - 1) Tryd.prog l (encF x) W fun e W' =>
      (e = .returned (.bool true) ∧ J (pre ++ [x]) W' ∧ KpB n₀ Bn W W') ∨ (e = .returned (.bool false) ∧ Jx (pre ++ [x]) W'))
    (W : World) (hBn : Blk W Bn 25 #[.complex .f64 a b]) (h0 : J [] W) :
    CallsIn Fence.wide n Tryd.prog 112 #[.func (.yield l) #[] #[], .pointer (some ⟨Bn, 0, none⟩)] W fun e W' => (∃ v, e = .returned v) ∧
      ((∃ ys, ys = [a, b] ∧ J ys W') ∨ (∃ pre, pre <+: [a, b] ∧ Jx pre W')) := by
  have b0 := hBn.cell 0
  have blt := hBn.lt
  simp only [List.getElem?_toArray, List.getElem?_cons_zero] at b0
  have HBN := Lib.hid hBn
  obtain ⟨fn, tmps, assign, body, hy, hR⟩ := hY [] a W h0 (by decide)
  clear hBn
  unfold encF at hy
  refine callsIn_of_wp Tryd.func112 rfl trivial ?_ rfl
  simp only [Tryd.ntmps112, List.size_toArray, List.length_cons, List.length_nil, Nat.reduceAdd, Nat.reduceSub, Array.replicate_succ, Array.replicate_zero, List.push_toArray, List.append_toArray, List.nil_append, List.cons_append]
  gi_wp2
  refine ⟨fun _ => by omega, hR.mono ?_⟩
  rintro e W3 (⟨rfl, hJ3, hB3, hb3⟩ | ⟨rfl, hJx3⟩)
  · have hBn3 : Blk W3 Bn 25 #[.complex .f64 a b] := hb3.trans HBN.out
    have c0 := hBn3.cell 0
    have clt := hBn3.lt
    simp only [List.getElem?_toArray, List.getElem?_cons_zero] at c0
    obtain ⟨fn2, tmps2, assign2, body2, hy2, hR2⟩ := hY _ b W3 hJ3 (by simp)
    unfold encF at hy2
    clear hy hR b0 blt
    gi_wp2
    refine ⟨fun _ => by omega, hR2.mono ?_⟩
    rintro e W4 (⟨rfl, hJ4, hB4, hb4⟩ | ⟨rfl, hJx4⟩)
    · gi_wp2
      go_end0
      exact ⟨⟨_, rfl⟩, .inl ⟨_, rfl, hJ4⟩⟩
    · gi_wp2
      go_end0
      exact ⟨⟨_, rfl⟩, .inr ⟨_, List.prefix_rfl, hJx4⟩⟩
  · gi_wp2
    go_end0
    exact ⟨⟨_, rfl⟩, .inr ⟨[a], ⟨[b], rfl⟩, hJx3⟩⟩
theorem parts_stops (n : Nat) (hn : 2 ≤ n) (Bn n₀ a b : Nat) (w : World) (hBn : Blk w Bn 25 #[.complex .f64 a b]) :
    SeqStopsK Fence.wide n Tryd.prog 112 #[.pointer (some ⟨Bn, 0, none⟩)] encF (KpB n₀ Bn) (fun ys => ys = [a, b]) (fun pre => pre <+: [a, b]) 2 w := fun l J Jx W hW hJ _ hY h0 =>
  parts1_in l Bn n₀ a b n hn J Jx hY W (hBn.below hW hBn.lt) h0

theorem floor_in (n : Nat) {w : World} (x : Nat) (s : Bool) (m : Nat) (e : Int) (hx : FloatKind.f64.decode x = .number s m e) :
    CallsIn Fence.wide n Tryd.prog 104 #[.float .f64 x] w fun en w' => en = .returned (.float .f64 (FloatKind.f64.encode ((Ieee.Datum.number s m e).integral .down))) ∧ w = w' := callsIn_wide.2 (floor_any x s m e hx)

/-- Is it a number of the document's? -/
noncomputable def isP (a b : Nat) : Bool := @decide ((∃ n, Whole a n) ∧ ∃ n, Whole b n) (Classical.propDecidable _)
theorem isP_iff (a b : Nat) : isP a b = true ↔ (∃ n, Whole a n) ∧ ∃ n, Whole b n := by unfold isP; exact @decide_eq_true_iff _ (Classical.propDecidable _)

set_option maxRecDepth 100000 in
set_option maxHeartbeats 2000000 in
theorem may_in (n : Nat) (hn : 8 ≤ n) (a b : Nat) (w : World) :
    CallsIn Fence.wide n Tryd.prog 91 #[.complex .f64 a b] w fun e W' => e = .returned (.bool (isP a b)) ∧ Below w.heap.size w W' := by
  have h1 : 1 ≤ n := by omega
  refine callsIn_of_wp_marks Tryd.func91 rfl trivial ?_ rfl
  simp only [Tryd.ntmps91, List.size_toArray, List.length_cons, List.length_nil, Nat.reduceAdd, Nat.reduceSub, Array.replicate_succ, Array.replicate_zero, List.push_toArray, List.append_toArray, List.nil_append, List.cons_append]
  gi_wp2
  refine wpIn_scope_straight ?_
  gi_wp2
  refine wpIn_label ?_
  gi_wp2_with (refine ⟨trivial, ?_⟩; gi_at_call 103; refine (parts_in (n - 1) _ _ _).mono ?_; rintro e w' ⟨rfl, rfl⟩)
  have bO := (Blk.new w 4 #[.bool true]).alloc (.cells #[.complex .f64 a b] 25)
  have bN := Blk.new (w.alloc (.cells #[.bool true] 4)) 25 #[.complex .f64 a b]
  rw [World.size_alloc] at bN
  have hB0 : Below w.heap.size w ((w.alloc (.cells #[.bool true] 4)).alloc (.cells #[.complex .f64 a b] 25)) := ((Below.refl _ w).alloc (Nat.le_refl _) _).alloc (by simp) _
  have hsz : ((w.alloc (.cells #[.bool true] 4)).alloc (.cells #[.complex .f64 a b] 25)).heap.size = w.heap.size + 2 := by simp
  obtain ⟨W0, hW0⟩ : ∃ W0, (w.alloc (.cells #[.bool true] 4)).alloc (.cells #[.complex .f64 a b] 25) = W0 := ⟨_, rfl⟩
  rw [hW0] at bO bN hB0 hsz ⊢
  clear hW0
  refine wpIn_rangeFunc_ownH rfl h1 (gf := 112) (lb := #[.pointer (some ⟨w.heap.size + 1, 0, none⟩)]) rfl trivial (enters_of Tryd.func112 (by kernel_rfl) rfl)
    (parts_stops (n - 1) (by omega) (w.heap.size + 1) w.heap.size a b W0 bN) kpB_t (kpB_b (by omega) (by omega)) (Below.refl _ _) (fun _ => rfl)
    (fun pre W => (Blk W w.heap.size 4 #[.bool true] ∧ ∀ x ∈ pre, ∃ k, Whole x k) ∧ Blk W (w.heap.size + 1) 25 #[.complex .f64 a b] ∧ Below w.heap.size w W)
    (fun c pre W => c = .exit 0 ∧ (Blk W w.heap.size 4 #[.bool false] ∧ ∃ x ∈ pre, ¬ ∃ k, Whole x k) ∧ Below w.heap.size w W)
    (OwnFrom.and (OwnFrom.and (Own.from (blk_own _ _ (fun _ => #[.bool true])) _) (fun _ _ _ _ hs _ _ => hs)) (OwnFrom.and (Own.from (blk_own _ _ (fun _ => #[.complex .f64 a b])) _) (ownFrom_below (Nat.le_refl _) (by omega))))
    (fun c => OwnFrom.and (fun _ _ _ _ hs _ _ => hs) (OwnFrom.and (OwnFrom.and (Own.from (blk_own _ _ (fun _ => #[.bool false])) _) (fun _ _ _ _ hs _ _ => hs)) (ownFrom_below (Nat.le_refl _) (by omega))))
    ⟨⟨bO, fun x hx => by cases hx⟩, bN, hB0⟩
    (fun x a' W => a' = { tmps := #[.complex .f64 a b, undef, .bool false, .pointer (some ⟨w.heap.size, 0, none⟩), .float .f64 x, .complex .f64 a b, .func (.func 112) #[] #[.pointer (some ⟨w.heap.size + 1, 0, none⟩)], .float .f64 x, undef, undef, undef, undef, undef, undef, undef, undef, undef, undef, undef, undef, undef, undef, undef], defers := [] })
    (fun x a' _ X Y row hs hg hr => hs)
    ?assign ?body ?done ?stop
  case assign =>
    rintro l pre x W K ⟨⟨hO, hp⟩, bN1, hB1⟩ hK
    simp only [encF] at hK ⊢
    gi_wp2
    exact hK _ _ (KeepsFrom.refl _ _) ⟨Below.refl _ _, rfl⟩ ⟨⟨hO, hp⟩, bN1, hB1⟩ rfl
  case body =>
    rintro l pre x a' W hl hr ⟨⟨hO, hp⟩, bN1, hB1⟩ rfl hlt
    have HO := Lib.hid hO
    have HB := Lib.hid hB1
    have HN := Lib.hid bN1
    have HP := Lib.hid hp
    have o0 := hO.cell 0
    have olt := hO.lt
    have ofr := hO.frozen 0
    simp only [List.getElem?_toArray, List.getElem?_cons_zero] at o0
    clear hO hB1 bN1 hp
    have hnil : ∀ v : Bool, Below w.heap.size w (W.setCell ⟨w.heap.size, 0, none⟩ (.bool v)) := fun v => HB.out.setCell (Nat.le_refl _) _
    have HSET := Lib.hid (fun v : Bool => HO.out.set_ 0 (.bool v))
    have HNIL := Lib.hid hnil
    have HKF := Lib.hid (fun v : Bool => (⟨by simp [World.setCell], fun k o hk h0 ho => (Below.heap_setCell W ⟨w.heap.size, 0, none⟩ (.bool v) k (by simp; omega)).trans h0⟩ : KeepsFrom W0.heap.size W (W.setCell ⟨w.heap.size, 0, none⟩ (.bool v))))
    have HKB := Lib.hid (fun v : Bool => (⟨(Below.refl w.heap.size W).setCell (Nat.le_refl _) _, Below.heap_setCell W ⟨w.heap.size, 0, none⟩ (.bool v) _ (by simp)⟩ : KpB w.heap.size (w.heap.size + 1) W (W.setCell ⟨w.heap.size, 0, none⟩ (.bool v))))
    have HBN := Lib.hid (fun v : Bool => HN.out.far (show w.heap.size + 1 ≠ (⟨w.heap.size, 0, none⟩ : Addr).block by simp) (.bool v))
    clear hnil
    rcases may_cases x with ⟨g0, hno⟩ | ⟨g0, g1, hno⟩ | ⟨g0, g1, s, m, e, hx, v, hv, hiff⟩
    · have hne : ¬ ∃ k, Whole x k := fun ⟨k, hk⟩ => hno k hk
      clear hno
      gi_wp2
      refine ⟨trivial, ?_⟩
      gi_wp2
      exact ⟨HKF.out false, rfl, ⟨by simpa using HSET.out false, x, by simp, hne⟩, HNIL.out false⟩
    · have hne : ¬ ∃ k, Whole x k := fun ⟨k, hk⟩ => hno k hk
      clear hno
      gi_wp2
      refine ⟨trivial, ?_⟩
      gi_wp2
      exact ⟨HKF.out false, rfl, ⟨by simpa using HSET.out false, x, by simp, hne⟩, HNIL.out false⟩
    · have HFL := Lib.hid (fun (n : Nat) (w : World) => (show CallsIn (Fence.wide.inRound l) n Tryd.prog 104 #[.float .f64 x] w _ from floor_in n (w := w) x s m e hx))
      have HIF := Lib.hid hiff
      clear hx hiff
      generalize FloatKind.f64.encode ((Ieee.Datum.number s m e).integral .down) = y at *
      cases v with
      | true =>
        gi_wp2
        refine ⟨trivial, fun _ => by omega, (HFL.out _ _).mono ?_⟩
        rintro e w' ⟨rfl, rfl⟩
        gi_wp2
        refine ⟨HKF.out true, HKB.out true, ⟨by simpa using HSET.out true, fun z hz => ?_⟩, HBN.out true, HNIL.out true⟩
        rcases List.mem_append.1 hz with h | h
        · exact HP.out z h
        · rw [List.mem_singleton.1 h]; exact HIF.out.1 (by simp)
      | false =>
        have hne : ¬ ∃ k, Whole x k := fun h => by have := HIF.out.2 h; cases this
        have HNE := Lib.hid hne
        clear hne
        gi_wp2
        refine ⟨trivial, fun _ => by omega, (HFL.out _ _).mono ?_⟩
        rintro e w' ⟨rfl, rfl⟩
        gi_wp2
        exact ⟨HKF.out false, rfl, ⟨by simpa using HSET.out false, x, by simp, HNE.out⟩, HNIL.out false⟩
  case done =>
    rintro D ys W hD rfl ⟨⟨hO, hp⟩, bN1, hB1⟩ hK
    have o0 := hO.cell 0
    have olt := hO.lt
    simp only [List.getElem?_toArray, List.getElem?_cons_zero] at o0
    have hP : isP a b = true := (isP_iff a b).2 ⟨hp a (by simp), hp b (by simp)⟩
    have HB := Lib.hid hB1
    clear hp hO bN1 hB1
    gi_wp2
    refine ⟨by simp, .inl ⟨_, _, rfl, run_takeDeferred hK, ?_⟩⟩
    exact ⟨_, results_tmp rfl _ _ _, by rw [hP]; rfl, HB.out.trans (belowK_b (w := w) (Nat.le_refl _) W D _ _ (by omega) hK rfl rfl)⟩
  case stop =>
    rintro D c pre W hD hpre ⟨rfl, ⟨hO, x, hx, hne⟩, hB1⟩ hK
    have o0 := hO.cell 0
    have olt := hO.lt
    simp only [List.getElem?_toArray, List.getElem?_cons_zero] at o0
    have hP : isP a b = false := by
      cases h : isP a b with
      | false => rfl
      | true =>
        have h2 := (isP_iff a b).1 h
        have h3 := hpre.subset hx
        simp only [List.mem_cons, List.not_mem_nil, or_false] at h3
        rcases h3 with rfl | rfl
        · exact absurd h2.1 hne
        · exact absurd h2.2 hne
    have HB := Lib.hid hB1
    clear hO hB1
    gi_wp2
    refine ⟨by simp, .inl ⟨_, _, rfl, run_takeDeferred hK, ?_⟩⟩
    exact ⟨_, results_tmp rfl _ _ _, by rw [hP]; rfl, HB.out.trans (belowK_b (w := w) (Nat.le_refl _) W D _ _ (by omega) hK rfl rfl)⟩
end
end Go.Proofs.YtoglmemmdolbmaaDoor
namespace Go.Proofs.YtoglmemmdolbmaaDoor
section
open Go.RowKit Go.Shelf
set_option linter.unusedVariables false
set_option linter.unusedSimpArgs false

/-- A number modulo 2^20, balanced. -/
def wz (n : Int) : Int := (n + 524288) % 1048576 - 524288
theorem wz_range (n : Int) : -524288 ≤ wz n ∧ wz n ≤ 524287 := by unfold wz; omega
theorem tm (n : Int) : ∃ q, n = 1048576 * q + n.tmod 1048576 ∧ -1048576 < n.tmod 1048576 ∧ n.tmod 1048576 < 1048576 := by
  by_cases h : 0 ≤ n
  · rw [Int.tmod_eq_emod_of_nonneg h]
    exact ⟨n / 1048576, by omega, by omega, by omega⟩
  · have e : n.tmod 1048576 = -((-n) % 1048576) := by rw [← Int.tmod_eq_emod_of_nonneg (by omega), Int.neg_tmod, Int.neg_neg]
    rw [e]
    exact ⟨-((-n) / 1048576), by omega, by omega, by omega⟩
def mk (p q : Int) : Value := .complex .f64 (floatOfInt .f64 (wz p)) (floatOfInt .f64 (wz q))

theorem gWrap_any {w : World} (n : Int) : Calls Tryd.prog 46 #[.int .i64 n] w fun e w' => e = .returned (.float .f64 (floatOfInt .f64 (wz n))) ∧ w = w' := by
  obtain ⟨q, hq, h0, h1⟩ := tm n
  have w2 : wrap64 (n.tmod 1048576 + 1048576) = n.tmod 1048576 + 1048576 := IntWalk.wrap64_in _ (by omega)
  have w3 : wrap64 (n.tmod 1048576 - 1048576) = n.tmod 1048576 - 1048576 := IntWalk.wrap64_in _ (by omega)
  have w4 : wrap64 (n.tmod 1048576 + 1048576 - 1048576) = n.tmod 1048576 := by rw [IntWalk.wrap64_in _ (by omega)]; omega
  by_cases c1 : 524288 ≤ n.tmod 1048576
  · have e : wz n = n.tmod 1048576 - 1048576 := by unfold wz; omega
    rw [e]
    clear hq h0 h1 e
    go_enter Tryd.func46, Tryd.ntmps46
    go_wp2
    go_ret
    first | exact ⟨rfl, rfl⟩ | (simp only [w2, w3, w4, IntWalk.i64_left]; exact ⟨rfl, rfl⟩)
  · by_cases c2 : n.tmod 1048576 < -524288
    · have e : wz n = n.tmod 1048576 + 1048576 := by unfold wz; omega
      rw [e]
      clear hq h0 h1 e
      go_enter Tryd.func46, Tryd.ntmps46
      go_wp2
      go_ret
      first | exact ⟨rfl, rfl⟩ | (simp only [w2, w3, w4, IntWalk.i64_left]; exact ⟨rfl, rfl⟩)
    · have e : wz n = n.tmod 1048576 := by unfold wz; omega
      rw [e]
      clear hq h0 h1 e
      go_enter Tryd.func46, Tryd.ntmps46
      go_wp2
      go_ret
      first | exact ⟨rfl, rfl⟩ | (simp only [w2, w3, w4, IntWalk.i64_left]; exact ⟨rfl, rfl⟩)

theorem rWrap_any {w : World} (n : Int) : Calls Tryd.prog 61 #[.int .i64 n] w fun e w' => e = .returned (.int .i64 (wz n)) ∧ w = w' := by
  obtain ⟨q, hq, h0, h1⟩ := tm n
  have w2 : wrap64 (n.tmod 1048576 + 1048576) = n.tmod 1048576 + 1048576 := IntWalk.wrap64_in _ (by omega)
  have w3 : wrap64 (n.tmod 1048576 - 1048576) = n.tmod 1048576 - 1048576 := IntWalk.wrap64_in _ (by omega)
  have w4 : wrap64 (n.tmod 1048576 + 1048576 - 1048576) = n.tmod 1048576 := by rw [IntWalk.wrap64_in _ (by omega)]; omega
  by_cases c0 : n.tmod 1048576 < 0
  · by_cases c1 : 524288 ≤ n.tmod 1048576 + 1048576
    · have e : wz n = n.tmod 1048576 := by unfold wz; omega
      have c2 : 524288 ≤ wrap64 (n.tmod 1048576 + 1048576) := by rw [w2]; exact c1
      rw [e]
      clear hq h0 h1 e c1
      go_enter Tryd.func61, Tryd.ntmps61
      go_wp2
      go_ret
      first | exact ⟨rfl, rfl⟩ | (simp only [w2, w3, w4, IntWalk.i64_left]; exact ⟨rfl, rfl⟩)
    · have e : wz n = n.tmod 1048576 + 1048576 := by unfold wz; omega
      have c2 : ¬ 524288 ≤ wrap64 (n.tmod 1048576 + 1048576) := by rw [w2]; exact c1
      rw [e]
      clear hq h0 h1 e c1
      go_enter Tryd.func61, Tryd.ntmps61
      go_wp2
      go_ret
      first | exact ⟨rfl, rfl⟩ | (simp only [w2, w3, w4, IntWalk.i64_left]; exact ⟨rfl, rfl⟩)
  · by_cases c1 : 524288 ≤ n.tmod 1048576
    · have e : wz n = n.tmod 1048576 - 1048576 := by unfold wz; omega
      rw [e]
      clear hq h0 h1 e
      go_enter Tryd.func61, Tryd.ntmps61
      go_wp2
      go_ret
      first | exact ⟨rfl, rfl⟩ | (simp only [w2, w3, w4, IntWalk.i64_left]; exact ⟨rfl, rfl⟩)
    · have e : wz n = n.tmod 1048576 := by unfold wz; omega
      rw [e]
      clear hq h0 h1 e
      go_enter Tryd.func61, Tryd.ntmps61
      go_wp2
      go_ret
      first | exact ⟨rfl, rfl⟩ | (simp only [w2, w3, w4, IntWalk.i64_left]; exact ⟨rfl, rfl⟩)
end
end Go.Proofs.YtoglmemmdolbmaaDoor
namespace Go.Proofs.YtoglmemmdolbmaaDoor
section
open Go.RowKit Go.Shelf
set_option linter.unusedVariables false
set_option linter.unusedSimpArgs false
attribute [local irreducible] floatOfInt wz

theorem gMake_any {w : World} (p q : Int) : Calls Tryd.prog 22 #[.int .i64 p, .int .i64 q] w fun e w' => e = .returned (mk p q) ∧ w = w' := by
  have H1 := Lib.hid (fun W n => gWrap_any (w := W) n)
  unfold mk
  go_enter Tryd.func22, Tryd.ntmps22
  go_wp2_with (go_at_call 46; refine (H1.out _ _).mono ?_; rintro e w1 ⟨rfl, rfl⟩)
  go_ret
  exact ⟨rfl, rfl⟩
theorem rMake_any {w : World} (p q : Int) : Calls Tryd.prog 43 #[.int .i64 p, .int .i64 q] w fun e w' => e = .returned (mk p q) ∧ w = w' := by
  have H1 := Lib.hid (fun W n => rWrap_any (w := W) n)
  unfold mk
  go_enter Tryd.func43, Tryd.ntmps43
  go_wp2_with (go_at_call 61; refine (H1.out _ _).mono ?_; rintro e w1 ⟨rfl, rfl⟩)
  go_ret
  exact ⟨rfl, rfl⟩

/-! ## the parts of any complex number -/
theorem may_any {w : World} (a b : Nat) : Calls Tryd.prog 91 #[.complex .f64 a b] w fun e w' => e = .returned (.bool (isP a b)) ∧ Below w.heap.size w w' := callsIn_wide.1 (may_in 8 (Nat.le_refl _) a b w)
noncomputable def prt (x : Nat) : Int := @dite _ (∃ n, Whole x n) (Classical.propDecidable _) (fun h => Classical.choose h) (fun _ => 0)
theorem prt_eq {x : Nat} {n : Int} (h : Whole x n) : prt x = n := by
  unfold prt
  have he : ∃ n, Whole x n := ⟨n, h⟩
  rw [dif_pos he]
  exact flo_inj (Classical.choose_spec he).1 h.1
theorem prt_whole {x : Nat} (h : ∃ n, Whole x n) : Whole x (prt x) := by
  obtain ⟨n, hn⟩ := h
  rw [prt_eq hn]; exact hn
noncomputable def re (a b : Nat) : Int := if isP a b then prt a else 0
noncomputable def im (a b : Nat) : Int := if isP a b then prt b else 0
theorem re_range (a b : Nat) : (-524288 ≤ re a b ∧ re a b ≤ 524287) ∧ -524288 ≤ im a b ∧ im a b ≤ 524287 := by
  unfold re im
  by_cases h : isP a b = true
  · obtain ⟨h1, h2⟩ := (isP_iff a b).1 h
    simp only [h, if_true]
    exact ⟨(prt_whole h1).2, (prt_whole h2).2⟩
  · simp only [h, if_false]; simp

theorem gParts_any {w : World} (a b : Nat) : Calls Tryd.prog 77 #[.complex .f64 a b] w fun e w' => e = .returned (.tuple #[.int .i64 (re a b), .int .i64 (im a b)]) ∧ Below w.heap.size w w' := by
  have HM := Lib.hid (fun W => may_any (w := W) a b)
  unfold re im
  cases h : isP a b with
  | true =>
    obtain ⟨h1, h2⟩ := (isP_iff a b).1 h
    have p1 := prt_whole h1
    have p2 := prt_whole h2
    have k1 := fun w : World => run_convert_float_int (P := Tryd.prog) w 80 2 .f64 .i64 a (prt a) (by rw [Tryd.underlying80]; rfl) Tryd.underlying2 (flo_toInt p1.1 (by have := p1.2; omega) (by have := p1.2; omega))
    have k2 := fun w : World => run_convert_float_int (P := Tryd.prog) w 80 2 .f64 .i64 b (prt b) (by rw [Tryd.underlying80]; rfl) Tryd.underlying2 (flo_toInt p2.1 (by have := p2.2; omega) (by have := p2.2; omega))
    rw [h] at HM
    simp only [if_true]
    clear p1 p2 h1 h2 h
    generalize prt a = p at *
    generalize prt b = q at *
    go_enter Tryd.func77, Tryd.ntmps77
    go_wp2_with (go_at_call 91; refine (HM.out _).mono ?_; rintro e w1 ⟨rfl, hb1⟩; have HB := Lib.hid hb1; clear hb1)
    go_ret2
    exact ⟨rfl, HB.out⟩
  | false =>
    rw [h] at HM
    simp only [if_false, Bool.false_eq_true]
    clear h
    go_enter Tryd.func77, Tryd.ntmps77
    go_wp2_with (go_at_call 91; refine (HM.out _).mono ?_; rintro e w1 ⟨rfl, hb1⟩; have HB := Lib.hid hb1; clear hb1)
    go_ret2
    exact ⟨rfl, HB.out⟩

noncomputable def ownX (a b x : Nat) : Nat := if isP a b then x else 0
theorem gOwn_any {w : World} (a b : Nat) : Calls Tryd.prog 79 #[.complex .f64 a b] w fun e w' => e = .returned (.complex .f64 (ownX a b a) (ownX a b b)) ∧ Below w.heap.size w w' := by
  have HM := Lib.hid (fun W => may_any (w := W) a b)
  unfold ownX
  cases h : isP a b with
  | true =>
    rw [h] at HM
    simp only [if_true]
    clear h
    go_enter Tryd.func79, Tryd.ntmps79
    go_wp2_with (go_at_call 91; refine (HM.out _).mono ?_; rintro e w1 ⟨rfl, hb1⟩; have HB := Lib.hid hb1; clear hb1)
    go_ret
    exact ⟨rfl, HB.out⟩
  | false =>
    rw [h] at HM
    simp only [if_false, Bool.false_eq_true]
    clear h
    go_enter Tryd.func79, Tryd.ntmps79
    go_wp2_with (go_at_call 91; refine (HM.out _).mono ?_; rintro e w1 ⟨rfl, hb1⟩; have HB := Lib.hid hb1; clear hb1)
    go_ret
    exact ⟨rfl, HB.out⟩
theorem own_flo (a b : Nat) : Flo (ownX a b a) (re a b) ∧ Flo (ownX a b b) (im a b) := by
  unfold ownX re im
  by_cases h : isP a b = true
  · obtain ⟨h1, h2⟩ := (isP_iff a b).1 h
    simp only [h, if_true]
    exact ⟨(prt_whole h1).1, (prt_whole h2).1⟩
  · simp only [h, if_false]
    exact ⟨flo_zero, flo_zero⟩
theorem gFit_any {w : World} {x y : Nat} {p q : Int} (hx : Flo x p) (hy : Flo y q) (b1 : -9223372036854775808 ≤ p ∧ p ≤ 9223372036854775807) (b2 : -9223372036854775808 ≤ q ∧ q ≤ 9223372036854775807) :
    Calls Tryd.prog 78 #[.complex .f64 x y] w fun e w' => e = .returned (mk p q) ∧ w = w' := by
  have H1 := Lib.hid (fun W => gMake_any (w := W) p q)
  have k1 := fun w : World => run_convert_float_int (P := Tryd.prog) w 80 2 .f64 .i64 x p (by rw [Tryd.underlying80]; rfl) Tryd.underlying2 (flo_toInt hx b1.1 b1.2)
  have k2 := fun w : World => run_convert_float_int (P := Tryd.prog) w 80 2 .f64 .i64 y q (by rw [Tryd.underlying80]; rfl) Tryd.underlying2 (flo_toInt hy b2.1 b2.2)
  clear hx hy b1 b2
  generalize mk p q = r at *
  go_enter Tryd.func78, Tryd.ntmps78
  go_wp2_with (go_at_call 22; refine (H1.out _).mono ?_; rintro e w1 ⟨rfl, rfl⟩)
  go_ret
  exact ⟨rfl, rfl⟩
end
end Go.Proofs.YtoglmemmdolbmaaDoor
