/-
  Walks over the reference of package trace: Of, Without, Pids. No condition.
-/
import Derived.Test.YtpcaeggecojaeaaTrace2
namespace Go.Proofs.Ytpcaeggecojaeaa
open Go.RowKit
set_option linter.unusedVariables false
set_option linter.unusedSimpArgs false

theorem infoS : (Try.prog.info? 33).map (fun i => (i.zero, i.size, i.bytes)) = some (some (.agg #[.int .i64 0, .int .i64 0, .int .i64 0, .int .u32 0]), 4, 32) := by kernel_rfl
theorem infoInt : (Try.prog.info? 3).map (fun i => (i.zero, i.size, i.bytes)) = some (some (.int .i64 0), 1, 8) := by kernel_rfl
/-- A slice of its own that holds what is seen. -/
abbrev OwnS (w : World) (base : Nat) (v : Value) (l : List S) : Prop := w.ownsRow base 33 4 v l.length (l.flatMap S.cells)
abbrev OwnI (w : World) (base : Nat) (v : Value) (l : List Int) : Prop := w.ownsRow base 3 1 v l.length (l.flatMap iCells)
theorem ownS_at {w : World} {base : Nat} {v : Value} {l : List S} (h : OwnS w base v l) : ∃ A c, v = .slice A l.length c ∧ SeenAt w A l ∧ ∀ b off, A = some ⟨b, off, none⟩ → base ≤ b := by
  have := rows_own (k := 4) (w := w) (v := v) (base := base) (t := 33) (rows := l.map S.cells) (fun r hr => by obtain ⟨x, _, rfl⟩ := List.mem_map.1 hr; rfl) (by rw [List.length_map, ← List.flatMap_def]; exact h)
  rwa [List.length_map] at this
theorem ownI_at {w : World} {base : Nat} {v : Value} {l : List Int} (h : OwnI w base v l) : ∃ A c, v = .slice A l.length c ∧ IntsAt w A l ∧ ∀ b off, A = some ⟨b, off, none⟩ → base ≤ b := by
  have := rows_own (k := 1) (w := w) (v := v) (base := base) (t := 3) (rows := l.map iCells) (fun r hr => by obtain ⟨x, _, rfl⟩ := List.mem_map.1 hr; rfl) (by rw [List.length_map, ← List.flatMap_def]; exact h)
  rwa [List.length_map] at this
theorem below_grown {B : Nat} {w w1 w2 : World} {row : Option Nat} (h : Below B w w1) (hg : w1.grownBy w2 row) (hr : ∀ r, row = some r → B ≤ r) (hB : B ≤ w1.heap.size) : Below B w w2 :=
  ⟨hg.os.trans h.os, hg.tape.trans h.tape, hg.output.trans h.output, Nat.le_trans h.size hg.size, fun k hk => (hg.block k (by omega) (fun e => by have := hr k e.symm; omega)).trans (h.block k hk)⟩
theorem own_block {w : World} {base : Nat} {t : TypeId} {s : Nat} {v : Value} {n : Nat} {cs : List Value} (h : w.ownsRow base t s v n cs) : ∀ r, v.ownBlock = some r → base ≤ r := by
  rcases h.2 with ⟨rfl, _⟩ | ⟨g, cap, cur, rfl, hb, _⟩
  · intro r h; simp [Value.ownBlock] at h
  · intro r h; simp [Value.ownBlock] at h; omega
theorem ownsRow_below {w w' : World} {base : Nat} {e : TypeId} {size : Nat} {v : Value} {k : Nat} {xs : List Value} (h : w.ownsRow base e size v k xs) (hb : Below w.heap.size w w') : w'.ownsRow base e size v k xs :=
  h.kept (grownBy_below hb) (by cases v.ownBlock <;> simp)

/-! ## the lists -/
def selOf (pids : List Int) (l : List S) : List S := l.filter fun x => decide (x.p ∈ pids)
def without (call : Int) (l : List S) : List S := l.filter fun x => !(decide (x.k = 1) && decide (x.c = call))
theorem filter_take {p : S → Bool} {l : List S} {k : Nat} {x : S} (h : l[k]? = some x) : (l.take (k + 1)).filter p = (l.take k).filter p ++ (if p x then [x] else []) := by
  rw [List.take_add_one, h, List.filter_append]
  cases hp : p x <;> simp [hp]
theorem take_len {l : List S} {k : Nat} {p : S → Bool} : ((l.take k).filter p).length ≤ k := Nat.le_trans (List.length_filter_le _ _) (by rw [List.length_take]; omega)

theorem ownS_snoc {w : World} {base : Nat} {v : Value} {l : List S} {x : S} (h : w.ownsRow base 33 4 v (l.length + 1) (l.flatMap S.cells ++ x.cells)) : OwnS w base v (l ++ [x]) := by
  unfold OwnS
  rw [List.length_append, List.flatMap_append]
  simpa using h
theorem ownI_snoc {w : World} {base : Nat} {v : Value} {l : List Int} {x : Int} (h : w.ownsRow base 3 1 v (l.length + 1) (l.flatMap iCells ++ iCells x)) : OwnI w base v (l ++ [x]) := by
  unfold OwnI
  rw [List.length_append, List.flatMap_append]
  simpa using h
theorem mem_take_next {ps : List Int} {q : Nat} {y v : Int} (h : ps[q]? = some y) : decide (v ∈ ps.take (q + 1)) = (decide (v ∈ ps.take q) || decide (y = v)) := by
  rw [List.take_add_one, h]
  by_cases h1 : v ∈ ps.take q <;> by_cases h2 : y = v
  · simp [h1, h2]
  · simp [h1]
  · simp [h2]
  · have : ¬ v = y := fun h => h2 h.symm
    simp [h1, h2, this]

set_option maxHeartbeats 4000000 in
theorem refOf_any {w : World} (A B : Option Addr) (ca cb : Nat) (xs : List S) (ps : List Int) (hx : SeenAt w A xs) (hp : IntsAt w B ps) (hxl : xs.length ≤ 1000000) (hpl : ps.length ≤ 1000000) :
    Calls Try.prog 8 #[.slice A xs.length ca, .slice B ps.length cb] w fun e w' => ∃ v, e = .returned v ∧ OwnS w' w.heap.size v (selOf ps xs) ∧ Below w.heap.size w w' := by
  obtain ⟨i0, hi, hz0, hz1, hz2⟩ := info_parts infoS
  go_enter Try.func8, Try.ntmps8
  go_wp2
  go_loopw [5, 6] (fun v i wr => ∃ k : Nat, i = .int .i64 (k : Int) ∧ k ≤ xs.length ∧ OwnS wr w.heap.size v (selOf ps (xs.take k)) ∧ Below w.heap.size w wr) (fun _ i _ => xs.length - (intOf i).toNat)
  case atStart => exact ⟨0, rfl, Nat.zero_le _, World.ownsRow_nil _ _ _ _, Below.refl _ _⟩
  case round =>
    obtain ⟨k, rfl, hk, hown, hB⟩ := hrel
    rename World => wo
    by_cases hkl : k < xs.length
    · have hka : (k : Int) < (xs.length : Int) := by omega
      have hxe : xs[k]? = some xs[k] := List.getElem?_eq_getElem hkl
      have hft := filter_take (p := fun x : S => decide (x.p ∈ ps)) hxe
      have hlen : (selOf ps (xs.take k)).length ≤ k := take_len
      generalize xs[k] = x at *
      have hft2 : selOf ps (xs.take (k + 1)) = selOf ps (xs.take k) ++ (if decide (x.p ∈ ps) then [x] else []) := hft
      generalize hsel : selOf ps (xs.take k) = sel at *
      have HFT := Lib.hid hft2
      have HX := Lib.hid hx
      have HP := Lib.hid hp
      have HO := Lib.hid hown
      clear hft hft2 hx hp hown hsel
      go_wp2
      go_loopw [7, 8] (fun is j wr => ∃ q : Nat, j = .int .i64 (q : Int) ∧ q ≤ ps.length ∧ is = .bool (decide (x.p ∈ ps.take q)) ∧ Below wo.heap.size wo wr) (fun _ j _ => ps.length - (intOf j).toNat)
      case atStart => exact ⟨0, rfl, Nat.zero_le _, by simp, Below.refl _ _⟩
      case round =>
        obtain ⟨q, rfl, hq, rfl, hB2⟩ := hrel
        have hBq : Below w.heap.size w wr := hB.trans (hB2.mono hB.size)
        by_cases hql : q < ps.length
        · have hqa : (q : Int) < (ps.length : Int) := by omega
          have hpe : ps[q]? = some ps[q] := List.getElem?_eq_getElem hql
          obtain ⟨b, off, rfl, hbl, c0, c1, c2, c3⟩ := seen_at (HX.out.below hBq) hxe
          obtain ⟨b', off', rfl, hbl', d0⟩ := int_at (HP.out.below hBq) hpe
          have htk := mem_take_next (v := x.p) hpe
          generalize ps[q] = y at *
          have HTK := Lib.hid htk
          generalize hbq : decide (x.p ∈ ps.take q) = bq at *
          by_cases hyx : y = x.p
          · have hb1 : (y == x.p) = true := by simp [hyx]
            have HYX := Lib.hid hyx
            clear htk hpe hyx hbq
            go_wp2_with (go_quiet (fail))
            go_roundw
            case rel => exact ⟨q + 1, by go_num, by omega, by rw [HTK.out, decide_eq_true HYX.out, Bool.or_true], belowN hB2 _⟩
            case measure => simp [intOf]; omega
          · have hb1 : (y == x.p) = false := by simp [hyx]
            have HYX := Lib.hid hyx
            clear htk hpe hyx hbq
            go_wp2_with (go_quiet (fail))
            go_roundw
            case rel => exact ⟨q + 1, by go_num, by omega, by rw [HTK.out, decide_eq_false HYX.out, Bool.or_false], belowN hB2 _⟩
            case measure => simp [intOf]; omega
        · have hqq : q = ps.length := by omega
          subst hqq
          rw [List.take_length]
          have hown2 : OwnS wr w.heap.size _ sel := ownsRow_below HO.out hB2
          obtain ⟨b, off, rfl, hbl, c0, c1, c2, c3⟩ := seen_at (HX.out.below hBq) hxe
          have hsz := hBq.size
          by_cases hm : x.p ∈ ps
          · have hd : decide (x.p ∈ ps) = true := decide_eq_true hm
            have hft := HFT.out
            rw [hd, if_pos rfl] at hft
            have HF := Lib.hid hft
            rw [hd]
            obtain ⟨xp, xk, xc, xv⟩ := x
            simp only at c0 c1 c2 c3
            clear hft hd hm hxe
            go_wp2_with (at_builtin; refine wpList_append_own _ rfl _ _ 22 rfl w.heap.size 33 i0 _ 4 32 Try.underlying22 hi hz0 hz1 hz2 rfl (by decide) _ _ _ rfl (hown2.alloc _) ⟨wr.heap.size, 0, none⟩ 1 1 (S.cells ⟨xp, xk, xc, xv⟩) rfl rfl (cells_new _ _ _) (by simp [S.cells, Value.oneCell']) (by unfold maxLen; omega) (by omega) (by simp; omega) ?_; intro v' w1 hown' hgrow _)
            go_roundw
            case rel => exact ⟨k + 1, by go_num, by omega, by rw [HF.out]; exact ownS_snoc hown', below_grown (hBq.alloc hsz _) hgrow (own_block hown2) (by simp; omega)⟩
            case measure => simp [intOf]; omega
          · have hd : decide (x.p ∈ ps) = false := decide_eq_false hm
            have hft := HFT.out
            rw [hd] at hft
            simp only [Bool.false_eq_true, if_false, List.append_nil] at hft
            have HF := Lib.hid hft
            rw [hd]
            clear hft hd hm hxe
            go_wp2
            go_roundw
            case rel => exact ⟨k + 1, by go_num, by omega, by rw [HF.out]; exact hown2, hBq⟩
            case measure => simp [intOf]; omega
    · have hkk : k = xs.length := by omega
      subst hkk
      rw [List.take_length] at hown
      clear hx hp
      go_wp2
      go_ret
      exact ⟨_, rfl, hown, hB⟩
end Go.Proofs.Ytpcaeggecojaeaa
