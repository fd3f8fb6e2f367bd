/-
  Walks over package pages: Set on a part that is not there, and in all; Clear.
-/
import Derived.Test.YtlecfdchmcghlaaPages2
namespace Go.Proofs.Ytlecfdchmcghlaa
open Go.RowKit
set_option linter.unusedVariables false
set_option linter.unusedSimpArgs false


def slotArr (o : Option E) : Array Value := (slotList o).toArray
theorem eqEntry (x y : E) (d : Nat) (w : World) : (Op.equalIn (d + 2) 71 (.agg x.arr) (.agg y.arr)).run Try.prog w = .ok (decide (x = y)) w := by
  rw [show d + 2 = (d + 1) + 1 from rfl, run_equalIn_agg w (d + 1) 71 _ _ (by kernel_rfl) Try.stoodInHeld71]
  have a3 := Try.isAgg3
  have a4 := Try.isAgg4
  simp only [Program.fieldsOf, Try.underlying71]
  obtain ⟨f, a, b, c, e⟩ := x
  obtain ⟨f', a', b', c', e'⟩ := y
  simp only [E.arr]
  go_simp
  by_cases h1 : f = f' <;> by_cases h2 : a = a' <;> by_cases h3 : b = b' <;> by_cases h4 : c = c' <;> by_cases h5 : e = e' <;> simp [h1, h2, h3, h4, h5]

/-- '==' on a slot and the empty one. -/
theorem eqSlot (o : Option E) (w : World) : (Op.equalIn 9999 103 (.agg (slotArr o)) (.agg (slotArr none))).run Try.prog w = .ok o.isNone w := by
  rw [show (9999 : Nat) = 9998 + 1 from rfl, run_equalIn_agg w 9998 103 _ _ (by kernel_rfl) Try.stoodInHeld103]
  have a1 := Try.isAgg71
  have a2 := Try.sizeOf71
  have a4 := Try.isAgg4
  simp only [Program.fieldsOf, Try.underlying103]
  cases o with
  | none =>
    have h := fun w => eqEntry E.zero E.zero 9996 w
    simp only [E.arr, E.zero] at h
    simp only [slotArr, slotList]
    go_simp
  | some x =>
    obtain ⟨f, a, b, c, d⟩ := x
    have h := fun w => eqEntry ⟨f, a, b, c, d⟩ E.zero 9996 w
    simp only [E.arr, E.zero] at h
    simp only [slotArr, slotList]
    go_simp

theorem part_slots (m : M) (i : Nat) : partArr m i = (slotList (m (8*i)) ++ (slotList (m (8*i+1)) ++ (slotList (m (8*i+2)) ++ (slotList (m (8*i+3)) ++ (slotList (m (8*i+4)) ++ (slotList (m (8*i+5)) ++ (slotList (m (8*i+6)) ++ slotList (m (8*i+7))))))))).toArray := by
  simp [partArr, partList]
theorem run_part_slot (m : M) (i : Nat) {j : Nat} (hj : j < 8) (w : World) : (part 103 (partArr m i) (j * 6)).run Try.prog w = .ok (.agg (slotArr (m (8 * i + j)))) w := by
  have a1 := Try.isAgg103
  have a2 := Try.sizeOf103
  unfold part
  obtain ⟨A, B, hA, hm, _⟩ := partList_parts m i hj
  obtain ⟨v0, v1, v2, v3, v4, v5, hv⟩ := slotList_form (m (8 * i + j))
  have hx : (partArr m i).extract (j * 6) (j * 6 + 6) = slotArr (m (8 * i + j)) := by
    unfold partArr slotArr
    rw [hm, hv, ← hA]
    apply Array.ext'
    simp
  go_simp

theorem eqPart (m : M) (i : Nat) (w : World) : (Op.equalIn 10000 105 (.agg (partArr m i)) (.agg (partArr (fun _ => none) 0))).run Try.prog w
    = .ok ((m (8*i)).isNone && (m (8*i+1)).isNone && (m (8*i+2)).isNone && (m (8*i+3)).isNone && (m (8*i+4)).isNone && (m (8*i+5)).isNone && (m (8*i+6)).isNone && (m (8*i+7)).isNone) w := by
  have a2 := Try.sizeOf103
  have e := fun (o : Option E) (w : World) => eqSlot o w
  have p0 := fun (m : M) (i : Nat) (w : World) => run_part_slot m i (j := 0) (by omega) w
  have p1 := fun (m : M) (i : Nat) (w : World) => run_part_slot m i (j := 1) (by omega) w
  have p2 := fun (m : M) (i : Nat) (w : World) => run_part_slot m i (j := 2) (by omega) w
  have p3 := fun (m : M) (i : Nat) (w : World) => run_part_slot m i (j := 3) (by omega) w
  have p4 := fun (m : M) (i : Nat) (w : World) => run_part_slot m i (j := 4) (by omega) w
  have p5 := fun (m : M) (i : Nat) (w : World) => run_part_slot m i (j := 5) (by omega) w
  have p6 := fun (m : M) (i : Nat) (w : World) => run_part_slot m i (j := 6) (by omega) w
  have p7 := fun (m : M) (i : Nat) (w : World) => run_part_slot m i (j := 7) (by omega) w
  simp only [Nat.reduceMul, Nat.add_zero] at p0 p1 p2 p3 p4 p5 p6 p7
  rw [show (10000 : Nat) = 9999 + 1 from rfl, Op.equalIn]
  simp only [Sem.run_bind, run_underlying Try.underlying105, Result.andThen_ok]
  simp only [Std.Legacy.Range.forIn_eq_forIn_range', Std.Legacy.Range.size, Nat.sub_zero, Nat.add_sub_cancel, Nat.div_one, List.range'_succ, List.range'_zero, List.forIn_cons, List.forIn_nil]
  simp only [Sem.run_bind, a2, Result.andThen_ok, Nat.reduceMul, Nat.reduceAdd, Nat.zero_mul, p0, p1, p2, p3, p4, p5, p6, p7, e]
  cases m (8*i) <;> simp [p1, e]
  cases m (8*i+1) <;> simp [p2, e]
  cases m (8*i+2) <;> simp [p3, e]
  cases m (8*i+3) <;> simp [p4, e]
  cases m (8*i+4) <;> simp [p5, e]
  cases m (8*i+5) <;> simp [p6, e]
  cases m (8*i+6) <;> simp [p7, e]
  cases m (8*i+7) <;> simp [e]

end Go.Proofs.Ytlecfdchmcghlaa
