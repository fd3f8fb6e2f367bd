/-
  Walks over package call and its reference: only, Of. Condition: the tables lie as the program's text lays them.
-/
import Derived.Test.YthmjddnccgiinaaDoorCall4
namespace Go.Proofs.YthmjddnccgiinaaDoor
open Go.RowKit Go.Shelf
set_option linter.unusedVariables false
set_option linter.unusedSimpArgs false
attribute [local go_sem] Oper.semAt_some

/-- A call with arguments put in their places. -/
def outA (N : Int) (pre : List Ag) : Array Value := pre.foldl (fun c x => c.setIfInBounds (1 + x.1.val) (.int .u32 x.2)) #[.int .i64 N, .int .u32 0, .int .u32 0, .int .u32 0]
theorem outA_size (N : Int) (pre : List Ag) : (outA N pre).size = 4 := by
  have : ∀ (l : List Ag) (c : Array Value), (l.foldl (fun c x => c.setIfInBounds (1 + x.1.val) (.int .u32 x.2)) c).size = c.size := by
    intro l
    induction l with
    | nil => intro c; rfl
    | cons x l ih => intro c; rw [List.foldl_cons, ih]; simp
  exact this pre _
theorem outA_snoc (N : Int) (pre : List Ag) (x : Ag) : outA N (pre ++ [x]) = (outA N pre).setIfInBounds (1 + x.1.val) (.int .u32 x.2) := by
  unfold outA; rw [List.foldl_append]; rfl
def onlyA (N a b c : Int) : Array Value := #[.int .i64 N, .int .u32 (if 0 < agN N then a else 0), .int .u32 (if 1 < agN N then b else 0), .int .u32 (if 2 < agN N then c else 0)]
theorem outA_all (N a b c : Int) : outA N (agL N a b c) = onlyA N a b c := by
  have h := agN_le N
  unfold agL onlyA
  rcases (show agN N = 0 ∨ agN N = 1 ∨ agN N = 2 ∨ agN N = 3 by omega) with e | e | e | e <;> rw [e] <;> rfl

theorem set4_heap (W : World) (b D : Nat) (u0 u1 u2 u3 : Value) (h : D ≠ b) : ((((W.setCell ⟨b, 0, none⟩ u0).setCell ⟨b, 1, none⟩ u1).setCell ⟨b, 2, none⟩ u2).setCell ⟨b, 3, none⟩ u3).heap[D]? = W.heap[D]? :=
  (Below.heap_setCell _ ⟨b, 3, none⟩ u3 D h).trans ((Below.heap_setCell _ ⟨b, 2, none⟩ u2 D h).trans ((Below.heap_setCell _ ⟨b, 1, none⟩ u1 D h).trans (Below.heap_setCell W ⟨b, 0, none⟩ u0 D h)))
theorem set4_blk {W : World} {b : Nat} {t : TypeId} {v0 v1 v2 v3 : Value} (h : Blk W b t #[v0, v1, v2, v3]) (u0 u1 u2 u3 : Value) : Blk ((((W.setCell ⟨b, 0, none⟩ u0).setCell ⟨b, 1, none⟩ u1).setCell ⟨b, 2, none⟩ u2).setCell ⟨b, 3, none⟩ u3) b t #[u0, u1, u2, u3] := by
  have := (((h.set_ 0 u0).set_ 1 u1).set_ 2 u2).set_ 3 u3
  simpa using this
theorem set4_below {B b : Nat} {w W : World} (h : Below B w W) (hb : B ≤ b) (u0 u1 u2 u3 : Value) : Below B w ((((W.setCell ⟨b, 0, none⟩ u0).setCell ⟨b, 1, none⟩ u1).setCell ⟨b, 2, none⟩ u2).setCell ⟨b, 3, none⟩ u3) :=
  (((h.setCell (p := ⟨b, 0, none⟩) hb u0).setCell (p := ⟨b, 1, none⟩) hb u1).setCell (p := ⟨b, 2, none⟩) hb u2).setCell (p := ⟨b, 3, none⟩) hb u3
theorem results_row {P : Program} {fn : Func} {p : Tmp} {ty : TypeId} (h : fn.results = #[.cell p ty]) (tmps : Array Value) {w : World} {g : Nat} {t : TypeId} {cs : Array Value} {d : TypeDesc}
    (hp : tmps.getD p undef = .pointer (some ⟨g, 0, none⟩)) (hg : Blk w g t cs) (hu : P.underlying ty = some d) (hd : (match d with | .struct _ | .array _ _ => true | _ => false) = true) (hi : (P.info? ty).map (·.size) = some cs.size) :
    (results fn tmps).run P w = .ok (.agg cs) w := by
  have hl := run_loadVar_row (P := P) w g t ty cs (0, 0) d hg hu hd hi
  simp only [results, h]
  simp only [Array.getD_eq_getD_getElem?] at hp
  simp [Sem.run_bind, Result.andThen, hp, asAddr, hl]

theorem args_in (n : Nat) (N a b c : Int) (w : World) :
    CallsIn Fence.wide n Tryd.prog 34 #[.agg #[.int .i64 N, .int .u32 a, .int .u32 b, .int .u32 c]] w fun e w' => e = .returned (.func (.func 47) #[] #[.pointer (some ⟨w.heap.size, 0, none⟩)]) ∧ w' = w.alloc (.cells #[.int .i64 N, .int .u32 a, .int .u32 b, .int .u32 c] 27) := by
  refine callsIn_of_wp Tryd.func34 rfl trivial ?_ rfl
  simp only [Tryd.ntmps34, List.size_toArray, List.length_cons, List.length_nil, Nat.reduceAdd, Nat.reduceSub, Array.replicate_succ, Array.replicate_zero, List.push_toArray, List.append_toArray, List.nil_append, List.cons_append]
  gi_wp2
  go_ret
  exact ⟨rfl, rfl⟩

theorem args_stops (n : Nat) (hn : 6 ≤ n) (Bn n₀ : Nat) (N a b c : Int) (w : World) (hBn : Blk w Bn 27 #[.int .i64 N, .int .u32 a, .int .u32 b, .int .u32 c]) (hL : Laid w) (hg : 0 < n₀) (hn₀ : n₀ ≤ w.heap.size) :
    SeqStopsK Fence.wide n Tryd.prog 47 #[.pointer (some ⟨Bn, 0, none⟩)] encA (KpB n₀ Bn) (fun ys => ys = agL N a b c) (fun pre => pre <+: agL N a b c) 3 w := fun l J Jx W hW hJ _ hY h0 =>
  args1_in l Bn n₀ N a b c n hn J Jx (fun s A B hs hb => abides_below hJ hs hb) (fun pre x W _ => hY pre x W) W (hBn.below hW hBn.lt) (hL.below hW) hg (by have := hW.size; omega) h0

set_option maxRecDepth 100000 in
set_option maxHeartbeats 2000000 in
theorem only_in (n : Nat) (hn : 8 ≤ n) (N a b c : Int) (w : World) (hL : Laid w) :
    CallsIn Fence.wide n Tryd.prog 31 #[.agg #[.int .i64 N, .int .u32 a, .int .u32 b, .int .u32 c]] w fun e W' => e = .returned (.agg (onlyA N a b c)) ∧ Below w.heap.size w W' := by
  have h1 : 1 ≤ n := by omega
  obtain ⟨p0, p1, p2, hO⟩ : ∃ p0 p1 p2 : Int, onlyA N a b c = #[.int .i64 N, .int .u32 p0, .int .u32 p1, .int .u32 p2] := ⟨_, _, _, rfl⟩
  have HO := Lib.hid hO
  rw [hO]
  clear hO
  refine callsIn_of_wp_marks Tryd.func31 rfl trivial ?_ rfl
  simp only [Tryd.ntmps31, List.size_toArray, List.length_cons, List.length_nil, Nat.reduceAdd, Nat.reduceSub, Array.replicate_succ, Array.replicate_zero, List.push_toArray, List.append_toArray, List.nil_append, List.cons_append]
  gi_wp2_with (refine ⟨trivial, ?_⟩; gi_at_call 34; refine (args_in (n - 1) _ _ _ _ _).mono ?_; rintro e w' ⟨rfl, rfl⟩)
  have hB0 : Below w.heap.size w ((((w.alloc (.cells #[.int .i64 N, .int .u32 a, .int .u32 b, .int .u32 c] 27)).alloc (.cells #[.int .i64 0, .int .u32 0, .int .u32 0, .int .u32 0] 27)).alloc (.cells #[.int .i64 N, .int .u32 0, .int .u32 0, .int .u32 0] 27)).alloc (.cells #[.int .i64 N, .int .u32 a, .int .u32 b, .int .u32 c] 27)) := ((((Below.refl _ w).alloc (Nat.le_refl _) _).alloc (by simp) _).alloc (by simp; omega) _).alloc (by simp; omega) _
  have hsz : ((((w.alloc (.cells #[.int .i64 N, .int .u32 a, .int .u32 b, .int .u32 c] 27)).alloc (.cells #[.int .i64 0, .int .u32 0, .int .u32 0, .int .u32 0] 27)).alloc (.cells #[.int .i64 N, .int .u32 0, .int .u32 0, .int .u32 0] 27)).alloc (.cells #[.int .i64 N, .int .u32 a, .int .u32 b, .int .u32 c] 27)).heap.size = w.heap.size + 4 := by simp
  have bR : Blk ((((w.alloc (.cells #[.int .i64 N, .int .u32 a, .int .u32 b, .int .u32 c] 27)).alloc (.cells #[.int .i64 0, .int .u32 0, .int .u32 0, .int .u32 0] 27)).alloc (.cells #[.int .i64 N, .int .u32 0, .int .u32 0, .int .u32 0] 27)).alloc (.cells #[.int .i64 N, .int .u32 a, .int .u32 b, .int .u32 c] 27)) (w.heap.size + 1) 27 #[.int .i64 0, .int .u32 0, .int .u32 0, .int .u32 0] := by
    have h := ((Blk.new (w.alloc (.cells #[.int .i64 N, .int .u32 a, .int .u32 b, .int .u32 c] 27)) 27 #[.int .i64 0, .int .u32 0, .int .u32 0, .int .u32 0]).alloc (.cells #[.int .i64 N, .int .u32 0, .int .u32 0, .int .u32 0] 27)).alloc (.cells #[.int .i64 N, .int .u32 a, .int .u32 b, .int .u32 c] 27)
    rwa [World.size_alloc] at h
  have bO : Blk ((((w.alloc (.cells #[.int .i64 N, .int .u32 a, .int .u32 b, .int .u32 c] 27)).alloc (.cells #[.int .i64 0, .int .u32 0, .int .u32 0, .int .u32 0] 27)).alloc (.cells #[.int .i64 N, .int .u32 0, .int .u32 0, .int .u32 0] 27)).alloc (.cells #[.int .i64 N, .int .u32 a, .int .u32 b, .int .u32 c] 27)) (w.heap.size + 1 + 1) 27 (outA N []) := by
    have h := (Blk.new ((w.alloc (.cells #[.int .i64 N, .int .u32 a, .int .u32 b, .int .u32 c] 27)).alloc (.cells #[.int .i64 0, .int .u32 0, .int .u32 0, .int .u32 0] 27)) 27 #[.int .i64 N, .int .u32 0, .int .u32 0, .int .u32 0]).alloc (.cells #[.int .i64 N, .int .u32 a, .int .u32 b, .int .u32 c] 27)
    rwa [World.size_alloc, World.size_alloc] at h
  have bN : Blk ((((w.alloc (.cells #[.int .i64 N, .int .u32 a, .int .u32 b, .int .u32 c] 27)).alloc (.cells #[.int .i64 0, .int .u32 0, .int .u32 0, .int .u32 0] 27)).alloc (.cells #[.int .i64 N, .int .u32 0, .int .u32 0, .int .u32 0] 27)).alloc (.cells #[.int .i64 N, .int .u32 a, .int .u32 b, .int .u32 c] 27)) (w.heap.size + 1 + 1 + 1) 27 #[.int .i64 N, .int .u32 a, .int .u32 b, .int .u32 c] := by
    have h := Blk.new (((w.alloc (.cells #[.int .i64 N, .int .u32 a, .int .u32 b, .int .u32 c] 27)).alloc (.cells #[.int .i64 0, .int .u32 0, .int .u32 0, .int .u32 0] 27)).alloc (.cells #[.int .i64 N, .int .u32 0, .int .u32 0, .int .u32 0] 27)) 27 #[.int .i64 N, .int .u32 a, .int .u32 b, .int .u32 c]
    rwa [World.size_alloc, World.size_alloc, World.size_alloc] at h
  obtain ⟨W0, hW0⟩ : ∃ W0, (((w.alloc (.cells #[.int .i64 N, .int .u32 a, .int .u32 b, .int .u32 c] 27)).alloc (.cells #[.int .i64 0, .int .u32 0, .int .u32 0, .int .u32 0] 27)).alloc (.cells #[.int .i64 N, .int .u32 0, .int .u32 0, .int .u32 0] 27)).alloc (.cells #[.int .i64 N, .int .u32 a, .int .u32 b, .int .u32 c] 27) = W0 := ⟨_, rfl⟩
  rw [hW0] at hB0 hsz bR bO bN ⊢
  clear hW0
  have hk0 := hL.klt
  refine wpIn_rangeFunc_ownH rfl h1 (gf := 47) (lb := #[.pointer (some ⟨w.heap.size + 1 + 1 + 1, 0, none⟩)]) rfl trivial (enters_of Tryd.func47 (by kernel_rfl) rfl)
    (args_stops (n - 1) (by omega) (w.heap.size + 1 + 1 + 1) w.heap.size N a b c W0 bN (hL.below hB0) hk0 (by omega)) kpB_t (kpB_b (by omega) (by omega)) (Below.refl _ _) (fun _ => rfl)
    (fun pre W => Blk W (w.heap.size + 1 + 1) 27 (outA N pre) ∧ Blk W (w.heap.size + 1) 27 #[.int .i64 0, .int .u32 0, .int .u32 0, .int .u32 0] ∧ Blk W (w.heap.size + 1 + 1 + 1) 27 #[.int .i64 N, .int .u32 a, .int .u32 b, .int .u32 c] ∧ Below w.heap.size w W)
    (fun _ _ _ => False)
    (OwnFrom.and (Own.from (blk_own _ _ (fun pre => outA N pre)) _) (OwnFrom.and (Own.from (blk_own _ _ (fun _ => #[.int .i64 0, .int .u32 0, .int .u32 0, .int .u32 0])) _) (OwnFrom.and (Own.from (blk_own _ _ (fun _ => #[.int .i64 N, .int .u32 a, .int .u32 b, .int .u32 c])) _) (ownFrom_below (Nat.le_refl _) (by omega)))))
    (fun _ _ _ _ _ hs _ _ => hs)
    ⟨bO, bR, bN, hB0⟩
    (fun x a' W => a' = { tmps := #[.agg #[.int .i64 N, .int .u32 a, .int .u32 b, .int .u32 c], .pointer (some ⟨w.heap.size, 0, none⟩), .pointer (some ⟨w.heap.size + 1, 0, none⟩), .pointer (some ⟨w.heap.size + 1 + 1, 0, none⟩), .int .i64 (x.1.val : Int), .int .u32 x.2, .pointer (some ⟨w.heap.size, 0, none⟩), .int .i64 N, .agg #[.int .i64 N, .int .u32 0, .int .u32 0, .int .u32 0], .agg #[.int .i64 N, .int .u32 a, .int .u32 b, .int .u32 c], .func (.func 47) #[] #[.pointer (some ⟨w.heap.size + 1 + 1 + 1, 0, none⟩)], .int .i64 (x.1.val : Int), .int .u32 x.2, undef, undef, undef, undef, undef], defers := [] })
    (fun x a' _ X Y row hs hg hr => hs)
    ?assign ?body ?done ?stop
  case assign =>
    rintro l pre ⟨x, v⟩ W K hI hK
    simp only [encA] at hK ⊢
    gi_wp2
    exact hK _ _ ⟨Nat.le_refl _, fun k o _ hk _ => hk⟩ ⟨Below.refl _ _, rfl⟩ hI rfl
  case body =>
    rintro l pre ⟨x, v⟩ a' W hl ⟨r, hr⟩ ⟨bO1, bR1, bN1, hB1⟩ rfl hlt
    have hx3 : (x.val : Int) < 3 := by omega
    obtain ⟨u, hu⟩ : ∃ u, W.cell? ⟨w.heap.size + 1 + 1, 1 + x.val, none⟩ = some u := by
      rw [bO1.cell]; exact ⟨_, Array.getElem?_eq_getElem (by rw [outA_size]; omega)⟩
    have hf := bO1.frozen (1 + x.val)
    have hlt2 := bO1.lt
    gi_wp2
    have hg : W.grownBy (W.setCell ⟨w.heap.size + 1 + 1, 1 + x.val, none⟩ (.int .u32 v)) (some (w.heap.size + 1 + 1)) := ⟨rfl, rfl, rfl, by simp [World.setCell], fun k hk hkn => Below.heap_setCell W _ _ k (fun e => hkn (by rw [e]))⟩
    have bN2 := bN1.far (p := ⟨w.heap.size + 1 + 1, 1 + x.val, none⟩) (show w.heap.size + 1 + 1 + 1 ≠ w.heap.size + 1 + 1 by omega) (.int .u32 v)
    have hB2 := (Below.refl w.heap.size W).setCell (p := ⟨w.heap.size + 1 + 1, 1 + x.val, none⟩) (show w.heap.size ≤ w.heap.size + 1 + 1 by omega) (.int .u32 v)
    refine ⟨⟨hB2.size, fun k o hBk hk ho => ?_⟩, ⟨hB2, bN2.trans bN1.symm⟩, ⟨by rw [outA_snoc]; exact bO1.set_ _ _, bR1.far (p := ⟨w.heap.size + 1 + 1, 1 + x.val, none⟩) (show w.heap.size + 1 ≠ w.heap.size + 1 + 1 by omega) _, bN2, hB1.trans hB2⟩⟩
    exact (Below.heap_setCell W _ _ k (by show k ≠ w.heap.size + 1 + 1; omega)).trans hk
  case done =>
    rintro D ys W hD rfl ⟨bO1, bR1, bN1, hB1⟩ hK
    rw [outA_all, HO.out] at bO1
    obtain ⟨o0, o1, o2, o3, olt⟩ := ccells bO1
    obtain ⟨r0, r1, r2, r3, rlt⟩ := ccells bR1
    have g0 := bR1.frozen 0
    have g1 := bR1.frozen 1
    have g2 := bR1.frozen 2
    have g3 := bR1.frozen 3
    gi_wp2
    have hne : D ≠ w.heap.size + 1 := by omega
    have hK2 := (set4_heap W (w.heap.size + 1) D (.int .i64 N) (.int .u32 p0) (.int .u32 p1) (.int .u32 p2) hne).trans hK
    have hR2 := set4_blk bR1 (.int .i64 N) (.int .u32 p0) (.int .u32 p1) (.int .u32 p2)
    have hB2 := set4_below hB1 (show w.heap.size ≤ w.heap.size + 1 by omega) (.int .i64 N) (.int .u32 p0) (.int .u32 p1) (.int .u32 p2)
    refine ⟨by simp, .inl ⟨_, _, rfl, run_takeDeferred hK2, ?_⟩⟩
    exact ⟨_, results_row rfl _ rfl ((World.putObj_heap_other (fun e => hne e.symm)).trans hR2) Tryd.underlying27 rfl (by kernel_rfl), rfl, hB2.trans (belowK_b (w := w) (Nat.le_refl _) _ D _ _ (by omega) hK2 rfl rfl)⟩
  case stop =>
    rintro D c pre W _ _ h _
    exact h.elim
theorem only_any (N a b c : Int) {w : World} (hL : Laid w) : Calls Tryd.prog 31 #[.agg #[.int .i64 N, .int .u32 a, .int .u32 b, .int .u32 c]] w fun e W' => e = .returned (.agg (onlyA N a b c)) ∧ Below w.heap.size w W' :=
  callsIn_wide.1 (only_in 8 (by omega) N a b c w hL)

/-! ## Of -/
def regsA (R : Nat → Int) : Array Value := #[.int .u32 (R 0), .int .u32 (R 1), .int .u32 (R 2), .int .u32 (R 3), .int .u32 (R 4), .int .u32 (R 5), .int .u32 (R 6), .int .u32 (R 7)]
/-- Registers' call. -/
def ofV (R : Nat → Int) : Value := .tuple #[.agg (if kM (kR (R 0)) < 0 then #[.int .i64 0, .int .u32 0, .int .u32 0, .int .u32 0] else onlyA (R 0) (R 1) (R 2) (R 3)), .bool (decide (0 ≤ kM (kR (R 0))))]
set_option maxRecDepth 100000 in
set_option maxHeartbeats 2000000 in
theorem of_regs {w : World} (hL : Laid w) (R : Nat → Int) (hR : 0 ≤ R 0 ∧ R 0 ≤ 4294967295) : Calls Tryd.prog 10 #[.agg (regsA R)] w fun e w' => e = .returned (ofV R) ∧ Below w.heap.size w w' := by
  have HM := Lib.hid (fun W (hW : Below w.heap.size w W) => many_any (hL.below hW) (R 0))
  have HO := Lib.hid (fun W (hW : Below w.heap.size w W) => only_any (R 0) (R 1) (R 2) (R 3) (hL.below hW))
  obtain ⟨p0, p1, p2, hO⟩ : ∃ p0 p1 p2 : Int, onlyA (R 0) (R 1) (R 2) (R 3) = #[.int .i64 (R 0), .int .u32 p0, .int .u32 p1, .int .u32 p2] := ⟨_, _, _, rfl⟩
  unfold ofV regsA
  rw [hO] at HO ⊢
  obtain ⟨h0, h1⟩ := hR
  generalize kM (kR (R 0)) = km at *
  generalize R 0 = r0 at *
  generalize R 1 = r1 at *
  generalize R 2 = r2 at *
  generalize R 3 = r3 at *
  generalize R 4 = r4 at *
  generalize R 5 = r5 at *
  generalize R 6 = r6 at *
  generalize R 7 = r7 at *
  clear hO hL
  have hB1 := (((Below.refl w.heap.size w).alloc (Nat.le_refl _) (.cells #[.int .u32 r0, .int .u32 r1, .int .u32 r2, .int .u32 r3, .int .u32 r4, .int .u32 r5, .int .u32 r6, .int .u32 r7] 23)).alloc (by simp) (.cells #[.int .i64 0, .int .u32 0, .int .u32 0, .int .u32 0] 27)).alloc (by simp; omega) (.cells #[.int .i64 r0, .int .u32 r1, .int .u32 r2, .int .u32 r3] 27)
  have bR := (Blk.new (w.alloc (.cells #[.int .u32 r0, .int .u32 r1, .int .u32 r2, .int .u32 r3, .int .u32 r4, .int .u32 r5, .int .u32 r6, .int .u32 r7] 23)) 27 #[.int .i64 0, .int .u32 0, .int .u32 0, .int .u32 0]).alloc (.cells #[.int .i64 r0, .int .u32 r1, .int .u32 r2, .int .u32 r3] 27)
  have bC := Blk.new ((w.alloc (.cells #[.int .u32 r0, .int .u32 r1, .int .u32 r2, .int .u32 r3, .int .u32 r4, .int .u32 r5, .int .u32 r6, .int .u32 r7] 23)).alloc (.cells #[.int .i64 0, .int .u32 0, .int .u32 0, .int .u32 0] 27)) 27 #[.int .i64 r0, .int .u32 r1, .int .u32 r2, .int .u32 r3]
  have hsz : (((w.alloc (.cells #[.int .u32 r0, .int .u32 r1, .int .u32 r2, .int .u32 r3, .int .u32 r4, .int .u32 r5, .int .u32 r6, .int .u32 r7] 23)).alloc (.cells #[.int .i64 0, .int .u32 0, .int .u32 0, .int .u32 0] 27)).alloc (.cells #[.int .i64 r0, .int .u32 r1, .int .u32 r2, .int .u32 r3] 27)).heap.size = w.heap.size + 3 := by simp
  rw [World.size_alloc] at bR
  rw [World.size_alloc, World.size_alloc] at bC
  have HBR := Lib.hid bR
  have HBC := Lib.hid bC
  have HSZ := Lib.hid hsz
  have HB1 := Lib.hid hB1
  clear bR bC hsz hB1
  by_cases hk : km < 0
  · have hd : decide (0 ≤ km) = false := by simp; omega
    rw [hd, if_pos hk]
    clear hd
    go_enter Tryd.func10, Tryd.ntmps10
    go_wp2_with fail
    refine (HM.out _ HB1.out).mono ?_
    rintro e w4 ⟨rfl, hb4⟩
    have hs4 := hb4.size
    rw [HSZ.out] at hs4
    have hB4 := HB1.out.trans (hb4.mono (by rw [HSZ.out]; omega))
    have bR4 := HBR.out.below hb4 (by rw [HSZ.out]; omega)
    have bC4 := HBC.out.below hb4 (by rw [HSZ.out]; omega)
    have HB4 := Lib.hid hB4
    have HR4 := Lib.hid bR4
    have HC4 := Lib.hid bC4
    clear hb4 hB4 bR4 bC4 HBR HBC HSZ HB1 HM
    clear HC4
    obtain ⟨b0, b1, b2, b3, blt⟩ := ccells HR4.out
    have g0 := HR4.out.frozen 0
    have g1 := HR4.out.frozen 1
    have g2 := HR4.out.frozen 2
    have g3 := HR4.out.frozen 3
    go_wp2
    exact bodyPost_ret (results_row_tmp Tryd.results10 _ rfl (set4_blk HR4.out (.int .i64 0) (.int .u32 0) (.int .u32 0) (.int .u32 0)) Tryd.underlying27 rfl (by kernel_rfl)) rfl ⟨rfl, set4_below HB4.out (by omega) _ _ _ _⟩
  · have hd : decide (0 ≤ km) = true := by simp; omega
    rw [hd, if_neg hk]
    have hk0 : 0 ≤ km := by omega
    clear hd
    go_enter Tryd.func10, Tryd.ntmps10
    go_wp2_with fail
    refine (HM.out _ HB1.out).mono ?_
    rintro e w4 ⟨rfl, hb4⟩
    have hs4 := hb4.size
    rw [HSZ.out] at hs4
    have hB4 := HB1.out.trans (hb4.mono (by rw [HSZ.out]; omega))
    have bR4 := HBR.out.below hb4 (by rw [HSZ.out]; omega)
    have bC4 := HBC.out.below hb4 (by rw [HSZ.out]; omega)
    have HB4 := Lib.hid hB4
    have HR4 := Lib.hid bR4
    have HC4 := Lib.hid bC4
    clear hb4 hB4 bR4 bC4 HBR HBC HSZ HB1 HM
    obtain ⟨c0, c1, c2, c3, clt⟩ := ccells HC4.out
    go_wp2_with fail
    refine (HO.out _ HB4.out).mono ?_
    rintro e w5 ⟨rfl, hb5⟩
    have bR5 := HR4.out.below hb5 (by omega)
    have hB5 := HB4.out.trans (hb5.mono (by omega))
    have HR5 := Lib.hid bR5
    have HB5 := Lib.hid hB5
    obtain ⟨b0, b1, b2, b3, blt⟩ := ccells bR5
    have g0 := bR5.frozen 0
    have g1 := bR5.frozen 1
    have g2 := bR5.frozen 2
    have g3 := bR5.frozen 3
    clear bR5 hb5 hB5 HR4 HC4 HB4 HO c0 c1 c2 c3 clt
    go_wp2
    exact bodyPost_ret (results_row_tmp Tryd.results10 _ rfl (set4_blk HR5.out (.int .i64 r0) (.int .u32 p0) (.int .u32 p1) (.int .u32 p2)) Tryd.underlying27 rfl (by kernel_rfl)) rfl ⟨rfl, set4_below HB5.out (by omega) _ _ _ _⟩

set_option maxRecDepth 100000 in
set_option maxHeartbeats 4000000 in
theorem refOf_regs {w : World} (R : Nat → Int) (hR : 0 ≤ R 0 ∧ R 0 ≤ 4294967295) : Calls Tryd.prog 11 #[.agg (regsA R)] w fun e w' => e = .returned (ofV R) ∧ Below w.heap.size w w' := by
  have HM := Lib.hid (fun W => refMany_any (w := W) (R 0))
  obtain ⟨h0, h1⟩ := hR
  have hM0 : 100 < R 0 → kM (kR (R 0)) = -1 := fun h => by rw [kR_out (by omega)]; rfl
  obtain ⟨p0, p1, p2, hO, e0, e1, e2⟩ : ∃ p0 p1 p2 : Int, onlyA (R 0) (R 1) (R 2) (R 3) = #[.int .i64 (R 0), .int .u32 p0, .int .u32 p1, .int .u32 p2] ∧ p0 = (if 0 < agN (R 0) then R 1 else 0) ∧ p1 = (if 1 < agN (R 0) then R 2 else 0) ∧ p2 = (if 2 < agN (R 0) then R 3 else 0) := ⟨_, _, _, rfl, rfl, rfl, rfl⟩
  have hmle := agN_le (R 0)
  have hmm : agN (R 0) = (kM (kR (R 0))).toNat := rfl
  unfold ofV regsA
  rw [hO]
  generalize agN (R 0) = m at *
  generalize kM (kR (R 0)) = km at *
  generalize R 0 = r0 at *
  generalize R 1 = r1 at *
  generalize R 2 = r2 at *
  generalize R 3 = r3 at *
  generalize R 4 = r4 at *
  generalize R 5 = r5 at *
  generalize R 6 = r6 at *
  generalize R 7 = r7 at *
  have HE0 := Lib.hid e0
  have HE1 := Lib.hid e1
  have HE2 := Lib.hid e2
  have HMM := Lib.hid hmm
  clear hO e0 e1 e2 hmm
  have hB1 := ((Below.refl w.heap.size w).alloc (Nat.le_refl _) (.cells #[.int .u32 r0, .int .u32 r1, .int .u32 r2, .int .u32 r3, .int .u32 r4, .int .u32 r5, .int .u32 r6, .int .u32 r7] 23)).alloc (by simp) (.cells #[.int .i64 0, .int .u32 0, .int .u32 0, .int .u32 0] 27)
  by_cases h100 : 100 < r0
  · have hk : km < 0 := by have := hM0 h100; omega
    have hd : decide (0 ≤ km) = false := by simp; omega
    rw [hd, if_pos hk]
    clear hd hM0
    have bR := Blk.new (w.alloc (.cells #[.int .u32 r0, .int .u32 r1, .int .u32 r2, .int .u32 r3, .int .u32 r4, .int .u32 r5, .int .u32 r6, .int .u32 r7] 23)) 27 #[.int .i64 0, .int .u32 0, .int .u32 0, .int .u32 0]
    rw [World.size_alloc] at bR
    have HBR := Lib.hid bR
    have HB1 := Lib.hid hB1
    clear bR hB1 HM HE0 HE1 HE2 HMM
    go_enter Tryd.func11, Tryd.ntmps11
    go_wp2
    exact bodyPost_ret (results_row_tmp Tryd.results11 _ rfl HBR.out Tryd.underlying27 rfl (by kernel_rfl)) rfl ⟨rfl, HB1.out⟩
  · by_cases hk : km < 0
    · have hd : decide (0 ≤ km) = false := by simp; omega
      rw [hd, if_pos hk]
      have h100' : r0 ≤ 100 := by omega
      clear hd hM0 h100
      have bR := Blk.new (w.alloc (.cells #[.int .u32 r0, .int .u32 r1, .int .u32 r2, .int .u32 r3, .int .u32 r4, .int .u32 r5, .int .u32 r6, .int .u32 r7] 23)) 27 #[.int .i64 0, .int .u32 0, .int .u32 0, .int .u32 0]
      rw [World.size_alloc] at bR
      have HBR := Lib.hid bR
      have HB1 := Lib.hid hB1
      clear bR hB1 HE0 HE1 HE2 HMM
      go_enter Tryd.func11, Tryd.ntmps11
      go_wp2_with (go_at_call 14; refine (HM.out _).mono ?_; rintro e w1 ⟨rfl, rfl⟩)
      exact bodyPost_ret (results_row_tmp Tryd.results11 _ rfl HBR.out Tryd.underlying27 rfl (by kernel_rfl)) rfl ⟨rfl, HB1.out⟩
    · have hd : decide (0 ≤ km) = true := by simp; omega
      rw [hd, if_neg hk]
      have h100' : r0 ≤ 100 := by omega
      have hk0 : 0 ≤ km := by omega
      clear hd hM0 h100
      go_enter Tryd.func11, Tryd.ntmps11
      go_wp2_with (go_at_call 14; refine (HM.out _).mono ?_; rintro e w1 ⟨rfl, rfl⟩)
      have bR := (Blk.new (w.alloc (.cells #[.int .u32 r0, .int .u32 r1, .int .u32 r2, .int .u32 r3, .int .u32 r4, .int .u32 r5, .int .u32 r6, .int .u32 r7] 23)) 27 #[.int .i64 0, .int .u32 0, .int .u32 0, .int .u32 0]).alloc (.cells #[.int .i64 r0, .int .u32 0, .int .u32 0, .int .u32 0] 27)
      have bG := ((Blk.new w 23 #[.int .u32 r0, .int .u32 r1, .int .u32 r2, .int .u32 r3, .int .u32 r4, .int .u32 r5, .int .u32 r6, .int .u32 r7]).alloc (.cells #[.int .i64 0, .int .u32 0, .int .u32 0, .int .u32 0] 27)).alloc (.cells #[.int .i64 r0, .int .u32 0, .int .u32 0, .int .u32 0] 27)
      have bC := Blk.new ((w.alloc (.cells #[.int .u32 r0, .int .u32 r1, .int .u32 r2, .int .u32 r3, .int .u32 r4, .int .u32 r5, .int .u32 r6, .int .u32 r7] 23)).alloc (.cells #[.int .i64 0, .int .u32 0, .int .u32 0, .int .u32 0] 27)) 27 #[.int .i64 r0, .int .u32 0, .int .u32 0, .int .u32 0]
      rw [World.size_alloc] at bR
      rw [World.size_alloc, World.size_alloc] at bC
      have hB2 := hB1.alloc (by simp; omega) (.cells #[.int .i64 r0, .int .u32 0, .int .u32 0, .int .u32 0] 27)
      clear hB1
      go_loopw [5] (fun i wr => ∃ (k : Nat) (u0 u1 u2 : Int), i = .int .i64 (k : Int) ∧ k ≤ m ∧ u0 = (if 0 < k then r1 else 0) ∧ u1 = (if 1 < k then r2 else 0) ∧ u2 = (if 2 < k then r3 else 0) ∧ Blk wr (w.heap.size + 1 + 1) 27 #[.int .i64 r0, .int .u32 u0, .int .u32 u1, .int .u32 u2] ∧ Blk wr (w.heap.size + 1) 27 #[.int .i64 0, .int .u32 0, .int .u32 0, .int .u32 0] ∧ Blk wr w.heap.size 23 #[.int .u32 r0, .int .u32 r1, .int .u32 r2, .int .u32 r3, .int .u32 r4, .int .u32 r5, .int .u32 r6, .int .u32 r7] ∧ Below w.heap.size w wr) (fun i _ => 3 - (intOf i).toNat)
      case atStart => exact ⟨0, 0, 0, 0, rfl, Nat.zero_le _, rfl, rfl, rfl, bC, bR, bG, hB2⟩
      case round =>
        obtain ⟨k, u0, u1, u2, rfl, hkm, f0, f1, f2, cC, cR, cG, cB⟩ := hrel
        have F0 := Lib.hid f0
        have F1 := Lib.hid f1
        have F2 := Lib.hid f2
        have HC := Lib.hid cC
        have HRb := Lib.hid cR
        have HG := Lib.hid cG
        have HB := Lib.hid cB
        obtain ⟨c0, c1, c2, c3, clt⟩ := ccells cC
        have gr : ∀ j, wr.cell? ⟨w.heap.size, j, none⟩ = (#[.int .u32 r0, .int .u32 r1, .int .u32 r2, .int .u32 r3, .int .u32 r4, .int .u32 r5, .int .u32 r6, .int .u32 r7] : Array Value)[j]? := fun j => cG.cell j
        have x1 := gr 1
        have x2 := gr 2
        have x3 := gr 3
        simp only [List.getElem?_toArray, List.getElem?_cons_zero, List.getElem?_cons_succ] at x1 x2 x3
        have xlt := cG.lt
        have q1 := cC.frozen 1
        have q2 := cC.frozen 2
        have q3 := cC.frozen 3
        clear f0 f1 f2 cC cG cB gr bR bG bC hB2
        by_cases hkl : k < m
        · have hkb : (k : Int) < km := by have := HMM.out; omega
          have hk3 : k = 0 ∨ k = 1 ∨ k = 2 := by omega
          clear cR
          rcases hk3 with rfl | rfl | rfl
          · go_wp2_with (go_at_call 14; refine (HM.out _).mono ?_; rintro e w1 ⟨rfl, rfl⟩)
            go_roundw
            case rel => exact ⟨1, r1, u1, u2, rfl, hkl, rfl, by rw [F1.out]; rfl, by rw [F2.out]; rfl, by have := HC.out.set_ 1 (.int .u32 r1); simpa using this, HRb.out.far (p := ⟨w.heap.size + 1 + 1, 1, none⟩) (show w.heap.size + 1 ≠ w.heap.size + 1 + 1 by omega) _, HG.out.far (p := ⟨w.heap.size + 1 + 1, 1, none⟩) (show w.heap.size ≠ w.heap.size + 1 + 1 by omega) _, HB.out.setCell (p := ⟨w.heap.size + 1 + 1, 1, none⟩) (show w.heap.size ≤ w.heap.size + 1 + 1 by omega) _⟩
            case measure => simp [intOf]
          · go_wp2_with (go_at_call 14; refine (HM.out _).mono ?_; rintro e w1 ⟨rfl, rfl⟩)
            go_roundw
            case rel => exact ⟨2, u0, r2, u2, rfl, hkl, by rw [F0.out]; rfl, rfl, by rw [F2.out]; rfl, by have := HC.out.set_ 2 (.int .u32 r2); simpa using this, HRb.out.far (p := ⟨w.heap.size + 1 + 1, 2, none⟩) (show w.heap.size + 1 ≠ w.heap.size + 1 + 1 by omega) _, HG.out.far (p := ⟨w.heap.size + 1 + 1, 2, none⟩) (show w.heap.size ≠ w.heap.size + 1 + 1 by omega) _, HB.out.setCell (p := ⟨w.heap.size + 1 + 1, 2, none⟩) (show w.heap.size ≤ w.heap.size + 1 + 1 by omega) _⟩
            case measure => simp [intOf]
          · go_wp2_with (go_at_call 14; refine (HM.out _).mono ?_; rintro e w1 ⟨rfl, rfl⟩)
            go_roundw
            case rel => exact ⟨3, u0, u1, r3, rfl, hkl, by rw [F0.out]; rfl, by rw [F1.out]; rfl, rfl, by have := HC.out.set_ 3 (.int .u32 r3); simpa using this, HRb.out.far (p := ⟨w.heap.size + 1 + 1, 3, none⟩) (show w.heap.size + 1 ≠ w.heap.size + 1 + 1 by omega) _, HG.out.far (p := ⟨w.heap.size + 1 + 1, 3, none⟩) (show w.heap.size ≠ w.heap.size + 1 + 1 by omega) _, HB.out.setCell (p := ⟨w.heap.size + 1 + 1, 3, none⟩) (show w.heap.size ≤ w.heap.size + 1 + 1 by omega) _⟩
            case measure => simp [intOf]
        · obtain rfl : m = k := by omega
          have hkb : ¬ (m : Int) < km := by have := HMM.out; omega
          have e0 := HE0.out.trans F0.out.symm
          have e1 := HE1.out.trans F1.out.symm
          have e2 := HE2.out.trans F2.out.symm
          obtain ⟨b0, b1, b2, b3, blt⟩ := ccells cR
          have g0 := cR.frozen 0
          have g1 := cR.frozen 1
          have g2 := cR.frozen 2
          have g3 := cR.frozen 3
          clear cR HE0 HE1 HE2 F0 F1 F2
          subst e0 e1 e2
          go_wp2_with (go_at_call 14; refine (HM.out _).mono ?_; rintro e w1 ⟨rfl, rfl⟩)
          exact bodyPost_ret (results_row_tmp Tryd.results11 _ rfl (set4_blk HRb.out (.int .i64 r0) (.int .u32 p0) (.int .u32 p1) (.int .u32 p2)) Tryd.underlying27 rfl (by kernel_rfl)) rfl ⟨rfl, set4_below HB.out (by omega) _ _ _ _⟩
end Go.Proofs.YthmjddnccgiinaaDoor
