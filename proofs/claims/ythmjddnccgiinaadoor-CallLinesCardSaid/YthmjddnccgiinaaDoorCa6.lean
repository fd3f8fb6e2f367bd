/-
  Walks over package call: two calls compared; may. Condition: the tables lie as the program's text lays them.
-/
import Derived.Deep.RegionHeld3
import Derived.Test.YthmjddnccgiinaaDoorCaPl
namespace Go.Proofs.YthmjddnccgiinaaDoor
open Go.RowKit Go.Shelf
set_option linter.unusedVariables false
set_option linter.unusedSimpArgs false
attribute [local go_sem] Oper.semAt_some

theorem bl_step {v W W1 : World} (h : Below v.heap.size v W) (h1 : Below W.heap.size W W1) : Below v.heap.size v W1 := h.trans (h1.mono h.size)
theorem bl_new {v W : World} (h : Below v.heap.size v W) (o : Obj) : Below v.heap.size v (W.alloc o) := h.alloc h.size o
theorem eqArgs (a b c a' b' c' : Int) (w : World) : (Op.equalIn 9999 25 (.agg #[.int .u32 a, .int .u32 b, .int .u32 c]) (.agg #[.int .u32 a', .int .u32 b', .int .u32 c'])).run Tryd.prog w = .ok (decide (a = a' ∧ b = b' ∧ c = c')) w := by
  have a2 := Tryd.sizeOf22
  have a4 := Tryd.isAgg22
  rw [show (9999 : Nat) = 9998 + 1 from rfl, Op.equalIn]
  simp only [Sem.run_bind, run_underlying Tryd.underlying25, Result.andThen_ok]
  simp only [Std.Legacy.Range.forIn_eq_forIn_range', Std.Legacy.Range.size, Nat.sub_zero, Nat.add_sub_cancel, Nat.div_one, List.range'_succ, List.range'_zero, List.forIn_cons, List.forIn_nil]
  simp only [Sem.run_bind, a2, Result.andThen_ok, Nat.reduceMul, Nat.reduceAdd, Nat.zero_mul]
  go_simp
  by_cases h1 : a = a'
  case neg => simp [h1]
  by_cases h2 : b = b'
  case neg => simp [h1, h2]
  by_cases h3 : c = c'
  case neg => simp [h1, h2, h3]
  simp [h1, h2, h3]
theorem eqC (x y : Cl) (w : World) : (Op.equalIn 10000 27 (.agg #[.int .i64 x.n, .int .u32 x.a, .int .u32 x.b, .int .u32 x.c]) (.agg #[.int .i64 y.n, .int .u32 y.a, .int .u32 y.b, .int .u32 y.c])).run Tryd.prog w = .ok (decide (x = y)) w := by
  rw [show (10000 : Nat) = 9999 + 1 from rfl, run_equalIn_agg w 9999 27 _ _ (by kernel_rfl) Tryd.stoodInHeld27]
  have a3 := Tryd.isAgg3
  have a4 := Tryd.isAgg22
  have a5 := Tryd.isAgg25
  simp only [Program.fieldsOf, Tryd.underlying27]
  obtain ⟨n, a, b, c⟩ := x
  obtain ⟨n', a', b', c'⟩ := y
  have e := fun w => eqArgs a b c a' b' c' w
  go_simp
  by_cases h1 : n = n'
  case neg => simp [h1]
  by_cases h2 : a = a' ∧ b = b' ∧ c = c'
  case neg =>
    have h3 : a = a' → b = b' → ¬ c = c' := fun x y z => h2 ⟨x, y, z⟩
    have h4 : (decide (a = a') && (decide (b = b') && decide (c = c'))) = false := by simpa using h3
    simp [h1]
    rw [if_pos h3, h4]
  simp [h1, h2]

theorem mayC_yes {x : Cl} (h : 0 ≤ kM (kR x.n)) : decide (MayC x) = decide (onC x = x) := by unfold MayC; simp [h]
theorem mayC_no {x : Cl} (h : ¬ 0 ≤ kM (kR x.n)) : decide (MayC x) = false := decide_eq_false fun e => h e.1

set_option maxRecDepth 100000 in
set_option maxHeartbeats 4000000 in
theorem may_any {w : World} (hL : Laid w) (n a b c : Int) : Calls Tryd.prog 33 #[.agg #[.int .i64 n, .int .u32 a, .int .u32 b, .int .u32 c]] w fun e w' => e = .returned (.bool (decide (MayC ⟨n, a, b, c⟩))) ∧ Below w.heap.size w w' := by
  have hb0 := (Below.refl w.heap.size w).alloc (Nat.le_refl _) (.cells #[.int .i64 n, .int .u32 a, .int .u32 b, .int .u32 c] 27)
  have hx0 := Blk.new w 27 #[.int .i64 n, .int .u32 a, .int .u32 b, .int .u32 c]
  have HM := Lib.hid (fun W (hW : Below (w.alloc (.cells #[.int .i64 n, .int .u32 a, .int .u32 b, .int .u32 c] 27)).heap.size (w.alloc (.cells #[.int .i64 n, .int .u32 a, .int .u32 b, .int .u32 c] 27)) W) => (many_any ((hL.below hb0).below hW) n).mono fun e w' h => show e = .returned (.int .i64 (kM (kR n))) ∧ Below _ _ w' from ⟨h.1, bl_step hW h.2⟩)
  obtain ⟨y, hy⟩ : ∃ y : Cl, onC ⟨n, a, b, c⟩ = y := ⟨_, rfl⟩
  have hyo : onlyA n a b c = #[.int .i64 y.n, .int .u32 y.a, .int .u32 y.b, .int .u32 y.c] := by rw [← hy]; exact onlyA_on ⟨n, a, b, c⟩
  have HO := Lib.hid (fun W (hW : Below (w.alloc (.cells #[.int .i64 n, .int .u32 a, .int .u32 b, .int .u32 c] 27)).heap.size (w.alloc (.cells #[.int .i64 n, .int .u32 a, .int .u32 b, .int .u32 c] 27)) W) => (only_any n a b c ((hL.below hb0).below hW)).mono fun e w' h => show e = .returned (.agg #[.int .i64 y.n, .int .u32 y.a, .int .u32 y.b, .int .u32 y.c]) ∧ Below _ _ w' from ⟨by rw [h.1, hyo], bl_step hW h.2⟩)
  have HX := Lib.hid (fun W (hW : Below (w.alloc (.cells #[.int .i64 n, .int .u32 a, .int .u32 b, .int .u32 c] 27)).heap.size (w.alloc (.cells #[.int .i64 n, .int .u32 a, .int .u32 b, .int .u32 c] 27)) W) => ccells (hx0.below hW hx0.lt))
  have HB := Lib.hid (fun W (hW : Below (w.alloc (.cells #[.int .i64 n, .int .u32 a, .int .u32 b, .int .u32 c] 27)).heap.size (w.alloc (.cells #[.int .i64 n, .int .u32 a, .int .u32 b, .int .u32 c] 27)) W) => show Below w.heap.size w W from bl_step hb0 hW)
  have hK := Below.refl (w.alloc (.cells #[.int .i64 n, .int .u32 a, .int .u32 b, .int .u32 c] 27)).heap.size (w.alloc (.cells #[.int .i64 n, .int .u32 a, .int .u32 b, .int .u32 c] 27))
  obtain ⟨q, hq⟩ : ∃ q, decide (MayC ⟨n, a, b, c⟩) = q := ⟨_, rfl⟩
  rw [hq]
  have hdy := fun (h : 0 ≤ kM (kR n)) => mayC_yes (x := ⟨n, a, b, c⟩) h
  have hdn := fun (h : ¬ 0 ≤ kM (kR n)) => mayC_no (x := ⟨n, a, b, c⟩) h
  rw [hq] at hdy hdn
  rw [hy] at hdy
  have HE := fun w => eqC y ⟨n, a, b, c⟩ w
  generalize kM (kR n) = km at *
  clear hb0 hx0 hL hyo hq hy
  by_cases hk : 0 ≤ km
  · have hd := hdy hk
    rw [← hd] at HE
    clear hd hdy hdn
    have hkd : decide (0 ≤ km) = true := decide_eq_true hk
    dsimp only at HE
    generalize y.n = yn at *
    generalize y.a = ya at *
    generalize y.b = yb at *
    generalize y.c = yc at *
    go_enter Tryd.func33, Tryd.ntmps33
    go_wp2_with fail
    obtain ⟨W0, hW0⟩ : ∃ W0, w.alloc (.cells #[.int .i64 n, .int .u32 a, .int .u32 b, .int .u32 c] 27) = W0 := ⟨_, rfl⟩
    rw [hW0] at HM HO HX HB hK ⊢
    clear hW0
    go_region_held3 (fun W => W.cell? ⟨w.heap.size, 0, none⟩ = some (.int .i64 n) ∧ W.cell? ⟨w.heap.size, 1, none⟩ = some (.int .u32 a) ∧ W.cell? ⟨w.heap.size, 2, none⟩ = some (.int .u32 b) ∧ W.cell? ⟨w.heap.size, 3, none⟩ = some (.int .u32 c))
      (first | exact (have h : Below W0.heap.size W0 _ := (by repeat (first | assumption | refine Below.drew ?_)); ⟨(HX.out _ h).1, (HX.out _ h).2.1, (HX.out _ h).2.2.1, (HX.out _ h).2.2.2.1⟩))
      (first
        | (go_at_call 13; refine (HM.out _ ?_).mono ?_; (focus (repeat (first | assumption | refine Below.drew ?_))); rintro e W1 ⟨rfl, hW1⟩)
        | (go_at_call 31; refine (HO.out _ ?_).mono ?_; (focus (repeat (first | assumption | refine Below.drew ?_))); rintro e W1 ⟨rfl, hW1⟩))
    go_wp2
    go_ret
    exact ⟨by first | rfl | simp, HB.out _ (by repeat (first | assumption | refine Below.drew ?_))⟩
  · obtain rfl := hdn hk
    clear hdy hdn HE HO
    have hkd : decide (0 ≤ km) = false := decide_eq_false hk
    go_enter Tryd.func33, Tryd.ntmps33
    go_wp2_with fail
    obtain ⟨W0, hW0⟩ : ∃ W0, w.alloc (.cells #[.int .i64 n, .int .u32 a, .int .u32 b, .int .u32 c] 27) = W0 := ⟨_, rfl⟩
    rw [hW0] at HM HX HB hK ⊢
    clear hW0
    obtain ⟨c0, c1, c2, c3, clt⟩ := HX.out _ hK
    go_region_with (go_at_call 13; refine (HM.out _ ?_).mono ?_; (focus (repeat (first | assumption | refine Below.drew ?_))); rintro e W1 ⟨rfl, hW1⟩)
    all_goals
      go_wp2
      go_ret
      exact ⟨by first | rfl | simp, HB.out _ (by repeat (first | assumption | refine Below.drew ?_))⟩
end Go.Proofs.YthmjddnccgiinaaDoor
