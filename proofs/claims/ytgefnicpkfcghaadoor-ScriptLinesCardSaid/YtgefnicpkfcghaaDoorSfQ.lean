/-
  What a line says, in the document's words: plain. No condition.
-/
import Derived.Test.YtgefnicpkfcghaaDoorSfV
import Derived.Test.YtgefnicpkfcghaaDoorSfY
namespace Go.Proofs.YtgefnicpkfcghaaDoor
set_option linter.unusedVariables false
set_option linter.unusedSimpArgs false

/-- What a line of these words would say. -/
def candQ (l0 l1 l2 : List UInt8) : Option O :=
  if kAtO l0 13 = 1 then some ⟨1, valO l1, valO l2, 0, 0, 0, ⟨#[]⟩⟩ else
  if kAtO l0 13 = 2 then some ⟨2, valO l1, 0, valO l2, 0, 0, ⟨#[]⟩⟩ else
  if kAtO l0 13 = 4 then some ⟨4, valO l1, 0, 0, 0, 0, ⟨#[]⟩⟩ else
  if kAtO l0 13 = 5 then some ⟨5, 0, 0, valO l1, valO l2, 0, ⟨#[]⟩⟩ else
  if kAtO l0 13 = 6 then some ⟨6, 0, 0, valO l1, 0, 0, ⟨l2.toArray⟩⟩ else
  if kAtO l0 13 = 7 then some ⟨7, 0, 0, valO l1, 0, 0, ⟨#[]⟩⟩ else
  if kAtO l0 13 = 8 then (if 0 ≤ valO l2 ∧ valO l2 ≤ 255 then some ⟨8, 0, 0, 0, 0, valO l2, ⟨l1.toArray⟩⟩ else none) else
  if kAtO l0 13 = 9 then (if 0 ≤ valO l2 ∧ valO l2 ≤ 255 then some ⟨9, 0, 0, valO l1, 0, valO l2, ⟨#[]⟩⟩ else none) else
  some (zeroO (kAtO l0 13 : Nat))
theorem candQ_k0 {l0 l1 l2 : List UInt8} (h : kAtO l0 13 = 0) : candQ l0 l1 l2 = some ⟨0, 0, 0, 0, 0, 0, ⟨#[]⟩⟩ := by unfold candQ; rw [h]; rfl
theorem candQ_k1 {l0 l1 l2 : List UInt8} (h : kAtO l0 13 = 1) : candQ l0 l1 l2 = some ⟨1, valO l1, valO l2, 0, 0, 0, ⟨#[]⟩⟩ := by unfold candQ; rw [h]; rfl
theorem candQ_k2 {l0 l1 l2 : List UInt8} (h : kAtO l0 13 = 2) : candQ l0 l1 l2 = some ⟨2, valO l1, 0, valO l2, 0, 0, ⟨#[]⟩⟩ := by unfold candQ; rw [h]; rfl
theorem candQ_k3 {l0 l1 l2 : List UInt8} (h : kAtO l0 13 = 3) : candQ l0 l1 l2 = some ⟨3, 0, 0, 0, 0, 0, ⟨#[]⟩⟩ := by unfold candQ; rw [h]; rfl
theorem candQ_k4 {l0 l1 l2 : List UInt8} (h : kAtO l0 13 = 4) : candQ l0 l1 l2 = some ⟨4, valO l1, 0, 0, 0, 0, ⟨#[]⟩⟩ := by unfold candQ; rw [h]; rfl
theorem candQ_k5 {l0 l1 l2 : List UInt8} (h : kAtO l0 13 = 5) : candQ l0 l1 l2 = some ⟨5, 0, 0, valO l1, valO l2, 0, ⟨#[]⟩⟩ := by unfold candQ; rw [h]; rfl
theorem candQ_k6 {l0 l1 l2 : List UInt8} (h : kAtO l0 13 = 6) : candQ l0 l1 l2 = some ⟨6, 0, 0, valO l1, 0, 0, ⟨l2.toArray⟩⟩ := by unfold candQ; rw [h]; rfl
theorem candQ_k7 {l0 l1 l2 : List UInt8} (h : kAtO l0 13 = 7) : candQ l0 l1 l2 = some ⟨7, 0, 0, valO l1, 0, 0, ⟨#[]⟩⟩ := by unfold candQ; rw [h]; rfl
theorem candQ_k8 {l0 l1 l2 : List UInt8} (h : kAtO l0 13 = 8) : candQ l0 l1 l2 = if 0 ≤ valO l2 ∧ valO l2 ≤ 255 then some ⟨8, 0, 0, 0, 0, valO l2, ⟨l1.toArray⟩⟩ else none := by unfold candQ; rw [h]; rfl
theorem candQ_k9 {l0 l1 l2 : List UInt8} (h : kAtO l0 13 = 9) : candQ l0 l1 l2 = if 0 ≤ valO l2 ∧ valO l2 ≤ 255 then some ⟨9, 0, 0, valO l1, 0, valO l2, ⟨#[]⟩⟩ else none := by unfold candQ; rw [h]; rfl
theorem candQ_k10 {l0 l1 l2 : List UInt8} (h : kAtO l0 13 = 10) : candQ l0 l1 l2 = some ⟨10, 0, 0, 0, 0, 0, ⟨#[]⟩⟩ := by unfold candQ; rw [h]; rfl
theorem candQ_k11 {l0 l1 l2 : List UInt8} (h : kAtO l0 13 = 11) : candQ l0 l1 l2 = some ⟨11, 0, 0, 0, 0, 0, ⟨#[]⟩⟩ := by unfold candQ; rw [h]; rfl
theorem candQ_k12 {l0 l1 l2 : List UInt8} (h : kAtO l0 13 = 12) : candQ l0 l1 l2 = some ⟨12, 0, 0, 0, 0, 0, ⟨#[]⟩⟩ := by unfold candQ; rw [h]; rfl
def padQ (s : List UInt8) (j : Nat) : List UInt8 := (pieces s).getD j []
theorem kAtO_val (l : List UInt8) : kAtO l 13 < 13 ∧ (kAtO l 13 = 0 ∨ kindW (kAtO l 13 : Nat) = l) := by
  refine ⟨?_, ?_⟩
  · have h : ∀ n, kAtO l (n + 1) < n + 1 := fun n => by
      induction n with
      | zero => unfold kAtO; rw [if_neg (fun h => absurd h.1 (Nat.lt_irrefl 0))]; unfold kAtO; omega
      | succ n ih => unfold kAtO; split <;> omega
    exact h 12
  · have h : ∀ n, kAtO l n = 0 ∨ kindW (kAtO l n : Nat) = l := fun n => by
      induction n with
      | zero => exact .inl rfl
      | succ n ih =>
        unfold kAtO
        split
        · rename_i hh
          exact .inr hh.2
        · exact ih
    exact h 13
theorem candQ_range {l0 l1 l2 : List UInt8} {y : O} (h : candQ l0 l1 l2 = some y) : RangeO y ∧ y.w.size ≤ max l1.length l2.length := by
  have hA := valO_range l1
  have hB := valO_range l2
  have hk := (kAtO_val l0).1
  have z1 : (⟨l1.toArray⟩ : ByteArray).size = l1.length := List.size_toArray
  have z2 : (⟨l2.toArray⟩ : ByteArray).size = l2.length := List.size_toArray
  have z0 : (⟨#[]⟩ : ByteArray).size = 0 := rfl
  unfold candQ at h
  repeat' split at h
  all_goals first | (cases h; done) | (injection h with h; subst h; refine ⟨?_, ?_⟩ <;> simp only [RangeO, zeroO, z0, z1, z2] <;> omega)
set_option maxHeartbeats 4000000 in
theorem candQ_line {x : O} (hm : MayO x) (hr : RangeO x) : candQ (padQ (lineO x) 0) (padQ (lineO x) 1) (padQ (lineO x) 2) = some x := by
  unfold padQ
  rw [pieces_lineO hm]
  have hk := kind_cases hm.1
  have hm0 : 0 ≤ x.m := hr.2.2.2.2.1
  have hK := kAtO_kind hm.1
  obtain ⟨hr1, hr2, hr3, hr4, hr5⟩ := hr
  obtain ⟨k, co, n, p, s, m, w⟩ := x
  simp only at hk hm0 hr1 hr2 hr3 hr4 hr5 hK
  rcases hk with rfl | rfl | rfl | rfl | rfl | rfl | rfl | rfl | rfl | rfl | rfl | rfl
  · obtain ⟨g0, g1, g2, g3, g4, g5⟩ := (may_k1 co n p s m w hm0).1 hm
    subst g2 g3 g4 g5
    have e : lineWO ⟨1, co, n, 0, 0, 0, ⟨#[]⟩⟩ = [kindW 1, Lib.itoa co, Lib.itoa n] := rfl
    have hK2 : kAtO (kindW 1) 13 = 1 := by decide
    have v0 := valO_itoa (p := co) (by omega) (by omega)
    have v1 := valO_itoa (p := n) (by omega) (by omega)
    rw [e]
    show candQ (kindW 1) (Lib.itoa co) (Lib.itoa n) = _
    unfold candQ
    simp [hK2, v0, v1, zeroO]
  · obtain ⟨g0, g1, g2, g3, g4, g5⟩ := (may_k2 co n p s m w hm0).1 hm
    subst g2 g3 g4 g5
    have e : lineWO ⟨2, co, 0, p, 0, 0, ⟨#[]⟩⟩ = [kindW 2, Lib.itoa co, Lib.itoa p] := rfl
    have hK2 : kAtO (kindW 2) 13 = 2 := by decide
    have v0 := valO_itoa (p := co) (by omega) (by omega)
    have v1 := valO_itoa (p := p) (by omega) (by omega)
    rw [e]
    show candQ (kindW 2) (Lib.itoa co) (Lib.itoa p) = _
    unfold candQ
    simp [hK2, v0, v1, zeroO]
  · obtain ⟨g0, g1, g2, g3, g4, g5⟩ := (may_k3 co n p s m w hm0).1 hm
    subst g0 g1 g2 g3 g4 g5
    have e : lineWO ⟨3, 0, 0, 0, 0, 0, ⟨#[]⟩⟩ = [kindW 3] := rfl
    have hK2 : kAtO (kindW 3) 13 = 3 := by decide
    rw [e]
    show candQ (kindW 3) [] [] = _
    unfold candQ
    simp [hK2, zeroO]
  · obtain ⟨g0, g1, g2, g3, g4, g5⟩ := (may_k4 co n p s m w hm0).1 hm
    subst g1 g2 g3 g4 g5
    have e : lineWO ⟨4, co, 0, 0, 0, 0, ⟨#[]⟩⟩ = [kindW 4, Lib.itoa co] := rfl
    have hK2 : kAtO (kindW 4) 13 = 4 := by decide
    have v0 := valO_itoa (p := co) (by omega) (by omega)
    rw [e]
    show candQ (kindW 4) (Lib.itoa co) [] = _
    unfold candQ
    simp [hK2, v0, zeroO]
  · obtain ⟨g0, g1, g2, g3, g4, g5, g6⟩ := (may_k5 co n p s m w hm0).1 hm
    subst g3 g4 g5 g6
    have e : lineWO ⟨5, 0, 0, p, s, 0, ⟨#[]⟩⟩ = [kindW 5, Lib.itoa p, Lib.itoa s] := rfl
    have hK2 : kAtO (kindW 5) 13 = 5 := by decide
    have v0 := valO_itoa (p := p) (by omega) (by omega)
    have v1 := valO_itoa (p := s) (by omega) (by omega)
    rw [e]
    show candQ (kindW 5) (Lib.itoa p) (Lib.itoa s) = _
    unfold candQ
    simp [hK2, v0, v1, zeroO]
  · obtain ⟨g0, g1, g2, g3, g4, g5⟩ := (may_k6 co n p s m w hm0).1 hm
    subst g2 g3 g4 g5
    have e : lineWO ⟨6, 0, 0, p, 0, 0, w⟩ = [kindW 6, Lib.itoa p, w.data.toList] := rfl
    have hK2 : kAtO (kindW 6) 13 = 6 := by decide
    have v0 := valO_itoa (p := p) (by omega) (by omega)
    rw [e]
    show candQ (kindW 6) (Lib.itoa p) (w.data.toList) = _
    unfold candQ
    simp [hK2, v0, zeroO]
  · obtain ⟨g0, g1, g2, g3, g4, g5⟩ := (may_k7 co n p s m w hm0).1 hm
    subst g1 g2 g3 g4 g5
    have e : lineWO ⟨7, 0, 0, p, 0, 0, ⟨#[]⟩⟩ = [kindW 7, Lib.itoa p] := rfl
    have hK2 : kAtO (kindW 7) 13 = 7 := by decide
    have v0 := valO_itoa (p := p) (by omega) (by omega)
    rw [e]
    show candQ (kindW 7) (Lib.itoa p) [] = _
    unfold candQ
    simp [hK2, v0, zeroO]
  · obtain ⟨g0, g1, g2, g3, g4, g5⟩ := (may_k8 co n p s m w hm0).1 hm
    subst g2 g3 g4 g5
    have e : lineWO ⟨8, 0, 0, 0, 0, m, w⟩ = [kindW 8, w.data.toList, Lib.itoa m] := rfl
    have hK2 : kAtO (kindW 8) 13 = 8 := by decide
    have v1 := valO_itoa (p := m) (by omega) (by omega)
    rw [e]
    show candQ (kindW 8) (w.data.toList) (Lib.itoa m) = _
    unfold candQ
    simp [hK2, v1, zeroO]
    omega
  · obtain ⟨g0, g1, g2, g3, g4, g5⟩ := (may_k9 co n p s m w hm0).1 hm
    subst g2 g3 g4 g5
    have e : lineWO ⟨9, 0, 0, p, 0, m, ⟨#[]⟩⟩ = [kindW 9, Lib.itoa p, Lib.itoa m] := rfl
    have hK2 : kAtO (kindW 9) 13 = 9 := by decide
    have v0 := valO_itoa (p := p) (by omega) (by omega)
    have v1 := valO_itoa (p := m) (by omega) (by omega)
    rw [e]
    show candQ (kindW 9) (Lib.itoa p) (Lib.itoa m) = _
    unfold candQ
    simp [hK2, v0, v1, zeroO]
    omega
  · obtain ⟨g0, g1, g2, g3, g4, g5⟩ := (may_k10 co n p s m w hm0).1 hm
    subst g0 g1 g2 g3 g4 g5
    have e : lineWO ⟨10, 0, 0, 0, 0, 0, ⟨#[]⟩⟩ = [kindW 10] := rfl
    have hK2 : kAtO (kindW 10) 13 = 10 := by decide
    rw [e]
    show candQ (kindW 10) [] [] = _
    unfold candQ
    simp [hK2, zeroO]
  · obtain ⟨g0, g1, g2, g3, g4, g5⟩ := (may_k11 co n p s m w hm0).1 hm
    subst g0 g1 g2 g3 g4 g5
    have e : lineWO ⟨11, 0, 0, 0, 0, 0, ⟨#[]⟩⟩ = [kindW 11] := rfl
    have hK2 : kAtO (kindW 11) 13 = 11 := by decide
    rw [e]
    show candQ (kindW 11) [] [] = _
    unfold candQ
    simp [hK2, zeroO]
  · obtain ⟨g0, g1, g2, g3, g4, g5⟩ := (may_k12 co n p s m w hm0).1 hm
    subst g0 g1 g2 g3 g4 g5
    have e : lineWO ⟨12, 0, 0, 0, 0, 0, ⟨#[]⟩⟩ = [kindW 12] := rfl
    have hK2 : kAtO (kindW 12) 13 = 12 := by decide
    rw [e]
    show candQ (kindW 12) [] [] = _
    unfold candQ
    simp [hK2, zeroO]
theorem readQ_eq (s : List UInt8) : readO s = match candQ (padQ s 0) (padQ s 1) (padQ s 2) with
    | none => none
    | some y => if MayO y ∧ lineO y = s then some y else none := by
  cases hr : readO s with
  | some x =>
    obtain ⟨m1, m2, m3⟩ := read_someO hr
    have h := candQ_line m1 m3
    rw [m2] at h
    rw [h]
    simp only [m1, m2, and_self, if_true]
  | none =>
    cases hc : candQ (padQ s 0) (padQ s 1) (padQ s 2) with
    | none => rfl
    | some y =>
      simp only
      rw [if_neg]
      rintro ⟨h1, h2⟩
      have h := read_lineO h1 (candQ_range hc).1
      rw [h2, hr] at h
      cases h
end Go.Proofs.YtgefnicpkfcghaaDoor
