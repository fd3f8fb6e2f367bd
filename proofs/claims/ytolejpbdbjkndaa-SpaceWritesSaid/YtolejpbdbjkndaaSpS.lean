/-
  The law's guard: are calls more than statements go through? Condition: the calls lie in memory.
-/
import Derived.Test.YtolejpbdbjkndaaSpO
namespace Go.Proofs.Ytolejpbdbjkndaa
open Go.RowKit Go.Shelf
set_option linter.unusedVariables false
set_option linter.unusedSimpArgs false
attribute [local go_sem] Oper.semAt_some

section
variable {w : World} {A : Option Addr} {l : List OpR}
theorem op_at (h : OpsA w A l) {i : Nat} {o : OpR} (ho : l[i]? = some o) : ∃ b off, A = some ⟨b, off, none⟩ ∧ b < w.heap.size ∧ w.cell? ⟨b, off + i * 14, none⟩ = some (.int .i64 o.k) ∧ w.cell? ⟨b, off + i * 14 + 1, none⟩ = some (.int .i64 o.who) ∧ w.cell? ⟨b, off + i * 14 + 2, none⟩ = some (.int .i64 o.p) ∧
    w.cell? ⟨b, off + i * 14 + 3, none⟩ = some (.int .i64 o.n) ∧ w.cell? ⟨b, off + i * 14 + 4, none⟩ = some (.bool o.wr) ∧ w.cell? ⟨b, off + i * 14 + 5, none⟩ = some (.bool o.sh) ∧ w.cell? ⟨b, off + i * 14 + 6, none⟩ = some (.int .u32 o.a) ∧ w.cell? ⟨b, off + i * 14 + 8, none⟩ = some (.slice o.A o.bs.length o.c) := by
  obtain ⟨b, off, hA, hlt, hc⟩ := h.1 i o.cells (by rw [List.getElem?_map, ho]; rfl)
  exact ⟨b, off, hA, hlt, hc 0 _ rfl, hc 1 _ rfl, hc 2 _ rfl, hc 3 _ rfl, hc 4 _ rfl, hc 5 _ rfl, hc 6 _ rfl, hc 8 _ rfl⟩
/-- Are they too many, or one's bytes? -/
def greatL (l : List OpR) (most : Nat) : Bool := decide (most < l.length) || l.any fun o => decide (300 < o.bs.length)
theorem greatL_no {l : List OpR} {most : Nat} (h : greatL l most = false) : l.length ≤ most ∧ ∀ o ∈ l, o.bs.length ≤ 300 := by
  unfold greatL at h
  rw [Bool.or_eq_false_iff, decide_eq_false_iff_not, List.any_eq_false] at h
  refine ⟨by omega, fun o ho => ?_⟩
  have := h.2 o ho
  rw [decide_eq_true_eq] at this
  omega
set_option maxRecDepth 100000 in
set_option maxHeartbeats 2000000 in
theorem great_any (c : Nat) (h : OpsA w A l) (hl : l.length ≤ maxLen) (most : Nat) :
    Calls Try.prog 9 #[.slice A l.length c, .int .i64 (most : Int)] w fun e w' => ∃ r : Int, e = .returned (.int .i64 r) ∧ (0 < r ↔ greatL l most = true) ∧ w = w' := by
  have hml : maxLen ≤ 9223372036854775807 := by decide
  by_cases hlong : most < l.length
  · have hli : (most : Int) < (l.length : Int) := by omega
    have HR := Lib.hid (show greatL l most = true from by unfold greatL; rw [decide_eq_true hlong]; rfl)
    clear h hlong
    go_enter Try.func9, Try.ntmps9
    go_wp2
    go_ret
    exact ⟨_, rfl, ⟨fun _ => HR.out, fun _ => by decide⟩, rfl⟩
  · have hli : ¬ (most : Int) < (l.length : Int) := by omega
    have HH := Lib.hid h
    have HGR := Lib.hid (show ∀ r : Bool, (l.any fun o => decide (300 < o.bs.length)) = r → greatL l most = r from fun r hr => by unfold greatL; rw [decide_eq_false hlong, hr]; rfl)
    clear h hlong
    go_enter Try.func9, Try.ntmps9
    go_wp2_with (fail)
    go_loopw [5] (fun i wr => ∃ k : Nat, i = .int .i64 (k : Int) ∧ k ≤ l.length ∧ Hid (∀ o ∈ l.take k, o.bs.length ≤ 300) ∧ wr = w) (fun i _ => l.length - (intOf i).toNat)
    case atStart => exact ⟨0, rfl, Nat.zero_le _, Lib.hid (fun o ho => by simp at ho), rfl⟩
    case round =>
      obtain ⟨k, rfl, hk, HT, rfl⟩ := hrel
      by_cases hkl : k < l.length
      · have hki : (k : Int) < (l.length : Int) := by omega
        have hxe : l[k]? = some l[k] := List.getElem?_eq_getElem hkl
        have hmem : l[k] ∈ l := List.getElem_mem hkl
        obtain ⟨b, off, rfl, hlt, c0, c1, c2, c3, c4, c5, c6, c8⟩ := op_at HH.out hxe
        have hcap := ((HH.out.2 _ hmem).1).cap
        clear c0 c1 c2 c3 c4 c5 c6
        have HM := Lib.hid hmem
        have HXE := Lib.hid hxe
        clear hmem hxe
        generalize l[k] = x at *
        obtain ⟨xl, hxl⟩ : ∃ n, n = x.bs.length := ⟨_, rfl⟩
        rw [← hxl] at c8 hcap
        have HXL := Lib.hid hxl
        clear hxl
        by_cases h300 : 300 < xl
        · have h3 : (300 : Int) < (xl : Int) := by omega
          go_wp2
          go_ret
          exact ⟨_, rfl, ⟨fun _ => HGR.out true (by rw [List.any_eq_true]; exact ⟨x, HM.out, decide_eq_true (by rw [← HXL.out]; exact h300)⟩), fun _ => by decide⟩, rfl⟩
        · have h3 : ¬ (300 : Int) < (xl : Int) := by omega
          go_wp2
          go_roundw
          case rel => exact ⟨k + 1, by go_num, by omega, Lib.hid (fun y hy => by
            rw [List.take_add_one, HXE.out, List.mem_append] at hy
            rcases hy with hy | hy
            · exact HT.out y hy
            · simp at hy
              rw [hy, ← HXL.out]
              omega), trivial⟩
          case measure => simp [intOf]; omega
      · have hki : ¬ (k : Int) < (l.length : Int) := by omega
        have hkk : k = l.length := by omega
        have HF := Lib.hid (HGR.out false (by
          rw [List.any_eq_false]
          intro o ho
          rw [hkk, List.take_length] at HT
          have := HT.out o ho
          rw [decide_eq_true_eq]
          omega))
        clear hkk
        go_wp2
        go_ret
        exact ⟨_, rfl, ⟨fun e => absurd e (by decide), fun e => (Bool.false_ne_true (HF.out.symm.trans e)).elim⟩, rfl⟩
/-- Dirty pages are in the list of those. -/
theorem dirtyN {m : M} {p n : Nat} (h : ∀ j, j < n → ∃ x, m (p + j) = some x ∧ x.d = true) : ∀ k, min k (p + n) - p ≤ (filt E.d (listN m 0 k)).length
  | 0 => by omega
  | k + 1 => by
    have ih := dirtyN h k
    rw [listN_snoc, Nat.zero_add]
    cases hm : m k with
    | none =>
      have ha : filt E.d (listN m 0 k ++ []) = filt E.d (listN m 0 k) := by rw [List.append_nil]
      show _ ≤ (filt E.d (listN m 0 k ++ [])).length
      rw [ha]
      by_cases hk : p ≤ k ∧ k < p + n
      · obtain ⟨x, hx, hd⟩ := h (k - p) (by omega)
        rw [show p + (k - p) = k by omega, hm] at hx
        cases hx
      · omega
    | some x =>
      have ha := filt_snoc E.d (listN m 0 k) (k, x)
      show _ ≤ (filt E.d (listN m 0 k ++ [(k, x)])).length
      rw [ha, List.length_append]
      by_cases hk : p ≤ k ∧ k < p + n
      · obtain ⟨y, hy, hd⟩ := h (k - p) (by omega)
        rw [show p + (k - p) = k by omega, hm] at hy
        cases hy
        show _ ≤ _ + (if E.d x then [((k : Nat) : Int)] else []).length
        rw [if_pos hd, List.length_singleton]
        omega
      · omega
end
end Go.Proofs.Ytolejpbdbjkndaa
