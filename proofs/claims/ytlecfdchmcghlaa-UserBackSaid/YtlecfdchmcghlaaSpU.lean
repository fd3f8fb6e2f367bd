/-
  One space kept through calls; what the law of pages that are mapped asks, in plain words. Condition: none.
-/
import Derived.Test.YtlecfdchmcghlaaSpT
namespace Go.Proofs.Ytlecfdchmcghlaa
open Go.RowKit Go.Shelf
set_option linter.unusedVariables false
set_option linter.unusedSimpArgs false

/-- Frames and one space, all new since w. -/
def MS (w W : World) (fb : Nat) (F : Fs) (so : Nat) (m : M) : Prop := ∃ lb cap sb bt q ms, AS w W fb lb cap F 1 sb bt q ms ∧ sb 0 = so ∧ ms 0 = m
section
variable {w W W' : World} {fb : Nat} {F : Fs} {so : Nat} {m : M}
theorem MS.below (h : MS w W fb F so m) (hb : Below W.heap.size W W') : MS w W' fb F so m := by
  obtain ⟨lb, cap, sb, bt, q, ms, h, e⟩ := h
  exact ⟨lb, cap, sb, bt, q, ms, h.below hb, e⟩
theorem MS.drew (h : MS w W fb F so m) : MS w W.drew fb F so m := h.below (Below.refl _ _).drew
theorem MS.lo (h : MS w W fb F so m) : Below w.heap.size w W := by
  obtain ⟨lb, cap, sb, bt, q, ms, h, e⟩ := h
  exact h.lo
theorem MS.gi (h : MS w W fb F so m) : GI F (fun _ => m) 1 := by
  obtain ⟨lb, cap, sb, bt, q, ms, h, _, rfl⟩ := h
  exact h.gi.ext fun i hi => by rw [show i = 0 by omega]
theorem MS.fs (h : MS w W fb F so m) : ∃ lb cap bt q, FS W fb lb cap F so bt q m := by
  obtain ⟨lb, cap, sb, bt, q, ms, h, rfl, rfl⟩ := h
  exact ⟨lb, cap, _, _, h.fs (by decide)⟩
theorem MS.ok (h : MS w W fb F so m) : SpOk F m := h.gi.spOk (i := 0) (by decide)
theorem msMap (h : MS w W fb F so m) (p n : Int) (mw sh : Bool) :
    Calls Try.prog 12 #[.pointer (some ⟨so, 0, none⟩), .int .i64 p, .int .i64 n, .bool mw, .bool sh] W fun e W' => e = .returned (.int .i64 (mapA F m p n mw sh).1) ∧ MS w W' fb (mapA F m p n mw sh).2.1 so (mapA F m p n mw sh).2.2 ∧ KeepT W W' := by
  obtain ⟨lb, cap, sb, bt, q, ms, h, rfl, rfl⟩ := h
  exact (asMap h (i := 0) (by decide) p n mw sh).mono fun e W' ⟨h1, q', h2, h3⟩ => ⟨h1, ⟨lb, cap, sb, bt, q', _, h2, rfl, updS_same _ _ _⟩, h3⟩
theorem msWrite (h : MS w W fb F so m) (a : Nat) {A : Option Addr} {c : Nat} {bs : List Int} (ha : a < 4294967296) (hb : BytesA w A c bs) (hl : bs.length ≤ 4096) :
    Calls Try.prog 21 #[.pointer (some ⟨so, 0, none⟩), .int .u32 a, .slice A bs.length c] W fun e W' => e = .returned (.int .i64 (writeA F m a bs).1) ∧ MS w W' fb (writeA F m a bs).2.1 so (writeA F m a bs).2.2 ∧ KeepT W W' := by
  obtain ⟨lb, cap, sb, bt, q, ms, h, rfl, rfl⟩ := h
  exact (asWrite h (i := 0) (by decide) a ha hb hl).mono fun e W' ⟨h1, q', h2, h3⟩ => ⟨h1, ⟨lb, cap, sb, bt, q', _, h2, rfl, updS_same _ _ _⟩, h3⟩
theorem msFree (h : MS w W fb F so m) : Calls Try.prog 25 #[.pointer (some ⟨fb, 0, none⟩)] W fun e w' => e = .returned (.int .i64 (freeN F)) ∧ Below W.heap.size W w' := by
  obtain ⟨lb, cap, bt, q, hf⟩ := h.fs
  exact frFree_any hf.f
theorem msPage (h : MS w W fb F so m) (p : Nat) (hp : p < 64) :
    Calls Try.prog 52 #[.pointer (some ⟨so, 0, none⟩), .int .i64 (p : Int)] W fun e w' => ∃ v, e = .returned v ∧ w'.ownsRow W.heap.size 5 1 v (pageP F m p).length ((pageP F m p).map fun x => Value.int .u8 x) ∧ Below W.heap.size W w' := by
  obtain ⟨lb, cap, bt, q, hf⟩ := h.fs
  exact spPage_any hf h.ok p hp
/-- The rows of what List tells. -/
def listR (m : M) : List (List Value) := (list m).map mapCells
theorem listR_len (m : M) : (listR m).length = (list m).length := List.length_map ..
/-- Rows in a block that is known. -/
structure RowB (W : World) (A : Option Addr) (t : TypeId) (k : Nat) (rows : List (List Value)) : Prop where
  r : RowsAt W A k rows
  b : ∀ i, i < rows.length → ∃ g off cs, A = some ⟨g, off, none⟩ ∧ Blk W g t cs
theorem RowB.keep {W W' : World} {A : Option Addr} {t : TypeId} {k : Nat} {rows : List (List Value)} (h : RowB W A t k rows) (hk : KeepT W W') (h1 : t ≠ 99) (h2 : t ≠ 61) (h3 : t ≠ 105) : RowB W' A t k rows := by
  refine ⟨fun i r hr => ?_, fun i hi => ?_⟩
  · obtain ⟨g, off, cs, hA, hb⟩ := h.b i (List.getElem?_eq_some_iff.1 hr).1
    obtain ⟨g', off', hA', hlt, hc⟩ := h.r i r hr
    rw [hA] at hA'
    injection hA' with e
    injection e with e1 e2
    subst e1 e2
    have hb' := hk.2 g t cs h1 h2 h3 hb
    exact ⟨g, off, hA, hb'.lt, fun j v hv => by rw [hb'.cell, ← hb.cell]; exact hc j v hv⟩
  · obtain ⟨g, off, cs, hA, hb⟩ := h.b i hi
    exact ⟨g, off, cs, hA, hk.2 g t cs h1 h2 h3 hb⟩
theorem msList (h : MS w W fb F so m) :
    Calls Try.prog 65 #[.pointer (some ⟨so, 0, none⟩)] W fun e W' => ∃ A c, e = .returned (.slice A (list m).length c) ∧ RowB W' A 75 6 (listR m) ∧ Below W.heap.size W W' := by
  obtain ⟨lb, cap, bt, q, hf⟩ := h.fs
  refine (spList_any hf).mono ?_
  rintro e W' ⟨v, rfl, hrow, _, hb⟩
  have hfl : (list m).flatMap mapCells = (listR m).flatten := by unfold listR; rw [List.flatMap_def]
  rw [hfl, ← listR_len] at hrow
  obtain ⟨A, c, rfl, hR, _⟩ := rows_own (fun r hr => by unfold listR at hr; rw [List.mem_map] at hr; obtain ⟨y, _, rfl⟩ := hr; rfl) hrow
  rw [listR_len]
  refine ⟨A, c, rfl, ⟨hR, fun i hi => ?_⟩, hb⟩
  rcases hrow.2 with ⟨_, h0⟩ | ⟨g, cap, cur, e, _, hg, _⟩
  · omega
  · injection e with e1 _ _
    exact ⟨g, 0, cur, e1, hg⟩
theorem msSpace {lb n : Nat} (h : FrAt W fb lb n (Fs.new n)) (hn : 1 ≤ n ∧ n ≤ 256) (hl : Below w.heap.size w W) (h1 : w.heap.size ≤ fb) (h2 : w.heap.size ≤ lb) :
    Calls Try.prog 11 #[.pointer (some ⟨fb, 0, none⟩)] W fun e W' => ∃ so, e = .returned (.pointer (some ⟨so, 0, none⟩)) ∧ MS w W' fb (Fs.new n) so m0 :=
  (asSpace h hn hl h1 h2).mono fun e W' ⟨so, bo, h1, h2, _⟩ => ⟨so, h1, _, _, _, _, _, _, h2, rfl, rfl⟩
end
/-- What Map answers. -/
theorem mapA_cases (F : Fs) (m : M) (p n : Int) (wr sh : Bool) : mapA F m p n wr sh = (22, F, m) ∨ (mapA F m p n wr sh = (12, F, m) ∧ freeN F < n) ∨
    ∃ P N : Nat, p = P ∧ n = N ∧ 1 ≤ N ∧ P + N ≤ 64 ∧ cntP m P N = 0 ∧ (N : Int) ≤ freeN F ∧ mapA F m p n wr sh = (0, (mapGo F m P wr sh N).1, (mapGo F m P wr sh N).2) := by
  unfold mapA
  by_cases hp : inP p n
  · rw [if_pos hp]
    obtain ⟨h1, h2, h3, h4⟩ := hp
    by_cases hc : cntP m p.toNat n.toNat = 0
    · rw [if_neg (fun e => e hc)]
      by_cases hf : freeN F < n
      · rw [if_pos hf]; exact .inr (.inl ⟨rfl, hf⟩)
      · rw [if_neg hf]; exact .inr (.inr ⟨p.toNat, n.toNat, by omega, by omega, by omega, by omega, hc, by omega, rfl⟩)
    · rw [if_pos hc]; exact .inl rfl
  · rw [if_neg hp]; exact .inl rfl
theorem pageP_ext {F F' : Fs} {m : M} (h : ∀ k, F'.b k = F.b k) (p : Nat) : pageP F' m p = pageP F m p := by
  unfold pageP
  cases m p with
  | none => rfl
  | some x => exact h _
end Go.Proofs.Ytlecfdchmcghlaa
