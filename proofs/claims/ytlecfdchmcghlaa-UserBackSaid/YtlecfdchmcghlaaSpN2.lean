/-
  The chapter's space and its examples, walked. Condition: none.
-/
import Derived.Test.YtlecfdchmcghlaaSpE
namespace Go.Proofs.Ytlecfdchmcghlaa
section
open Go.RowKit
set_option linter.unusedVariables false

/-- Each page's frame is used, and of that page alone, as a Bool. -/
def usedB (F : Fs) (m : M) : Bool := (List.range 64).all fun p => match m p with
  | none => true
  | some x => decide (0 ≤ x.f) && decide (x.f.toNat < F.n) && !decide (F.r x.f.toNat = 0) && x.ok
def oneB (m : M) : Bool := (list m).all fun a => (list m).all fun b => !decide (a.2.f = b.2.f) || decide (a.1 = b.1)
theorem list_mem6 (m : M) : ∀ k p n x, p ≤ n → n < p + k → m n = some x → (n, x) ∈ listN m p k
  | 0, p, n, x, h1, h2, _ => by omega
  | k + 1, p, n, x, h1, h2, h3 => by
    rw [listN, List.mem_append]
    by_cases hn : n = p
    · subst hn
      rw [h3]
      exact .inl (List.mem_singleton.2 rfl)
    · exact .inr (list_mem6 m k (p + 1) n x (by omega) (by omega) h3)
theorem spOk_of {F : Fs} {m : M} (h1 : usedB F m = true) (h2 : oneB m = true) : SpOk F m := by
  refine ⟨fun p x hp hx => ?_, fun p p' x y hp hp' hx hy e => ?_⟩
  · unfold usedB at h1
    rw [List.all_eq_true] at h1
    have := h1 p (List.mem_range.2 hp)
    rw [hx] at this
    simp only [Bool.and_eq_true, decide_eq_true_eq, Bool.not_eq_true', decide_eq_false_iff_not] at this
    exact ⟨x.f.toNat, by omega, this.1.1.2, this.1.2⟩
  · unfold oneB at h2
    rw [List.all_eq_true] at h2
    have h3 := h2 (p, x) (list_mem6 m 64 0 p x (by omega) (by omega) hx)
    rw [List.all_eq_true] at h3
    have h4 := h3 (p', y) (list_mem6 m 64 0 p' y (by omega) (by omega) hy)
    simp only [Bool.or_eq_true, Bool.not_eq_true', decide_eq_false_iff_not, decide_eq_true_eq] at h4
    exact h4.resolve_left (fun h => h e)
theorem eOk_of {F : Fs} {m : M} (h1 : usedB F m = true) : ∀ p x, p < 64 → m p = some x → x.ok = true := fun p x hp hx => by
  unfold usedB at h1
  rw [List.all_eq_true] at h1
  have := h1 p (List.mem_range.2 hp)
  rw [hx] at this
  simp only [Bool.and_eq_true] at this
  exact this.2
theorem top_of {F : Fs} (hF : F.Ok) (h : (List.range F.n).all (fun i => decide (F.r i + 64 < 1000000)) = true) : ∀ i, F.r i + 64 < 1000000 := fun i => by
  by_cases hi : i < F.n
  · rw [List.all_eq_true] at h
    simpa using h i (List.mem_range.2 hi)
  · rw [hF.far i (by omega)]
    decide
/-- The chapter's space over three frames. -/
def S1 : Fs × M := mapGo (Fs.new 3) m0 0 true false 2
def S2 : Fs × M := writeGo S1.1 S1.2 64 1 [9] (pcJ 64 1)
def C2 : Fs × M × M := clG S2.1 S2.2 (list S2.2) (list S2.2).length
def S3 : Fs × M := writeGo C2.1 C2.2.2 64 1 [8] (pcJ 64 1)
set_option maxRecDepth 100000 in
theorem s1_ok : usedB S1.1 S1.2 = true ∧ oneB S1.2 = true := by decide +kernel
set_option maxRecDepth 100000 in
theorem s1_map : cntP m0 0 2 = 0 ∧ (2 : Int) ≤ freeN (Fs.new 3) ∧ cntP S1.2 1 1 ≠ 0 ∧ cntP S1.2 5 2 = 0 ∧ freeN S1.1 < 2 := by decide +kernel
set_option maxRecDepth 100000 in
theorem s1_set : look S1.2 (1 : Int) = some ⟨1, true, false, false, true⟩ ∧ ((needK S1.1 S1.2 64 1 : Nat) : Int) ≤ freeN S1.1 := by decide +kernel
set_option maxRecDepth 100000 in
theorem s2_ok : usedB S2.1 S2.2 = true ∧ oneB S2.2 = true ∧ (List.range S2.1.n).all (fun i => decide (S2.1.r i + 64 < 1000000)) = true := by decide +kernel
set_option maxRecDepth 100000 in
theorem c2_ok : usedB C2.1 C2.2.1 = true ∧ oneB C2.2.1 = true ∧ usedB C2.1 C2.2.2 = true ∧ oneB C2.2.2 = true := by decide +kernel
set_option maxRecDepth 100000 in
theorem c2_byte : byteP C2.1 C2.2.2 64 = some 9 := by decide +kernel
set_option maxRecDepth 100000 in
theorem c2_set : look C2.2.2 (1 : Int) = some ⟨1, true, false, true, true⟩ ∧ ((needK C2.1 C2.2.2 64 1 : Nat) : Int) ≤ freeN C2.1 := by decide +kernel
set_option maxRecDepth 100000 in
theorem s3_ok : usedB S3.1 C2.2.1 = true ∧ usedB S3.1 S3.2 = true ∧ oneB S3.2 = true := by decide +kernel
set_option maxRecDepth 100000 in
theorem s3_byte : byteP S3.1 C2.2.1 64 = some 9 := by decide +kernel
set_option maxRecDepth 100000 in
theorem s3_few : look C2.2.1 (0 : Int) = some ⟨0, true, false, true, true⟩ ∧ freeN S3.1 < ((needK S3.1 C2.2.1 0 1 : Nat) : Int) ∧ freeN S3.1 = 0 := by decide +kernel
end
end Go.Proofs.Ytlecfdchmcghlaa
namespace Go.Proofs.Ytlecfdchmcghlaa
section
open Go.RowKit Go.Shelf
set_option linter.unusedVariables false
set_option linter.unusedSimpArgs false
attribute [local go_sem] Oper.semAt_some

/-- Frames and a space, all new since w; nothing that lay has turned. -/
structure TS (w W : World) (fb lb cap : Nat) (F : Fs) (sb bt : Nat) (q : Nat → Option Nat) (m : M) : Prop where
  fs : FS W fb lb cap F sb bt q m
  lo : Below w.heap.size w W
  ge : w.heap.size ≤ fb ∧ w.heap.size ≤ lb ∧ w.heap.size ≤ sb ∧ ∀ k, Own bt q k → w.heap.size ≤ k
section
variable {w W W' : World} {fb lb cap : Nat} {F F' : Fs} {sb bt : Nat} {q : Nat → Option Nat} {m m' : M}
theorem TS.below (h : TS w W fb lb cap F sb bt q m) (hb : Below W.heap.size W W') : TS w W' fb lb cap F sb bt q m := ⟨h.fs.below hb, bl_step h.lo hb, h.ge⟩
theorem TS.fout (h : TS w W fb lb cap F sb bt q m) (ho : FOut W fb lb cap F' sb bt q m' W') : ∃ q', TS w W' fb lb cap F' sb bt q' m' := by
  obtain ⟨q', hs, hb, hq⟩ := ho
  obtain ⟨g1, g2, g3, g4⟩ := h.ge
  refine ⟨q', hs, h.lo.trans (hb.below (fun k hk => ?_) h.lo.size), g1, g2, g3, fun k hk => ?_⟩
  · rcases hk with rfl | hk
    · exact g2
    · exact g4 k hk
  · rcases hq k hk with h1 | h1
    · exact g4 k h1
    · have := h.lo.size; omega
theorem TS.wout (h : TS w W fb lb cap F sb bt q m) (ho : WOut W W' fb lb cap F' sb bt q m') : TS w W' fb lb cap F' sb bt q m' := by
  obtain ⟨g1, g2, g3, g4⟩ := h.ge
  refine ⟨ho.1, h.lo.trans (ho.2.below (fun k hk => ?_) h.lo.size), g1, g2, g3, g4⟩
  rcases hk with rfl | hk
  · exact g2
  · exact g4 k hk
end
section
variable {w : World} {fb lb cap : Nat} {F : Fs} {sb bt : Nat} {q : Nat → Option Nat} {m : M}
theorem ok1 {m : M} {a : Nat} {i : Int} {x : E} (hi : ((a / 64 : Nat) : Int) = i) (h : look m i = some x) (hw : x.w = true) (wr : Bool) : okK m a wr (pcJ a 1) := (okK_one m a wr).2 ⟨x, by rw [hi]; exact h, fun _ => hw⟩
end
end
end Go.Proofs.Ytlecfdchmcghlaa
