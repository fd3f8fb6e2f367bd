/-
  One space kept through calls; what the law of pages that are mapped asks, in plain words. Condition: none.
-/
import Derived.Test.YtolejpbdbjkndaaSpT
namespace Go.Proofs.Ytolejpbdbjkndaa
open Go.RowKit Go.Shelf
set_option linter.unusedVariables false
set_option linter.unusedSimpArgs false

/-- Frames and one space, all new since w. -/
def MS (w W : World) (fb : Nat) (F : Fs) (so : Nat) (m : M) : Prop := ∃ lb cap sb bt q ms, AS w W fb lb cap F 1 sb bt q ms ∧ sb 0 = so ∧ ms 0 = m
section
variable {w W W' : World} {fb : Nat} {F : Fs} {so : Nat} {m : M}
theorem MS.below (h : MS w W fb F so m) (hb : Below W.heap.size W W') : MS w W' fb F so m := by
  obtain ⟨lb, cap, sb, bt, q, ms, h, e⟩ := h
  exact ⟨lb, cap, sb, bt, q, ms, h.below hb, e⟩
theorem MS.drew (h : MS w W fb F so m) : MS w W.drew fb F so m := h.below (Below.refl _ _).drew
theorem MS.lo (h : MS w W fb F so m) : Below w.heap.size w W := by
  obtain ⟨lb, cap, sb, bt, q, ms, h, e⟩ := h
  exact h.lo
theorem MS.gi (h : MS w W fb F so m) : GI F (fun _ => m) 1 := by
  obtain ⟨lb, cap, sb, bt, q, ms, h, _, rfl⟩ := h
  exact h.gi.ext fun i hi => by rw [show i = 0 by omega]
theorem MS.fs (h : MS w W fb F so m) : ∃ lb cap bt q, FS W fb lb cap F so bt q m := by
  obtain ⟨lb, cap, sb, bt, q, ms, h, rfl, rfl⟩ := h
  exact ⟨lb, cap, _, _, h.fs (by decide)⟩
theorem MS.ok (h : MS w W fb F so m) : SpOk F m := h.gi.spOk (i := 0) (by decide)
theorem msMap (h : MS w W fb F so m) (p n : Int) (mw sh : Bool) :
    Calls Try.prog 11 #[.pointer (some ⟨so, 0, none⟩), .int .i64 p, .int .i64 n, .bool mw, .bool sh] W fun e W' => e = .returned (.int .i64 (mapA F m p n mw sh).1) ∧ MS w W' fb (mapA F m p n mw sh).2.1 so (mapA F m p n mw sh).2.2 ∧ KeepT W W' := by
  obtain ⟨lb, cap, sb, bt, q, ms, h, rfl, rfl⟩ := h
  exact (asMap h (i := 0) (by decide) p n mw sh).mono fun e W' ⟨h1, q', h2, h3⟩ => ⟨h1, ⟨lb, cap, sb, bt, q', _, h2, rfl, updS_same _ _ _⟩, h3⟩
theorem msUnmap (h : MS w W fb F so m) (p n : Int) :
    Calls Try.prog 21 #[.pointer (some ⟨so, 0, none⟩), .int .i64 p, .int .i64 n] W fun e W' => e = .returned (.int .i64 (unmapA F m p n).1) ∧ MS w W' fb (unmapA F m p n).2.1 so (unmapA F m p n).2.2 ∧ KeepT W W' := by
  obtain ⟨lb, cap, sb, bt, q, ms, h, rfl, rfl⟩ := h
  exact (asUnmap h (i := 0) (by decide) p n).mono fun e W' ⟨h1, q', h2, h3⟩ => ⟨h1, ⟨lb, cap, sb, bt, q', _, h2, rfl, updS_same _ _ _⟩, h3⟩
theorem msWrite (h : MS w W fb F so m) (a : Nat) {A : Option Addr} {c : Nat} {bs : List Int} (ha : a < 4294967296) (hb : BytesA w A c bs) (hl : bs.length ≤ 4096) :
    Calls Try.prog 12 #[.pointer (some ⟨so, 0, none⟩), .int .u32 a, .slice A bs.length c] W fun e W' => e = .returned (.int .i64 (writeA F m a bs).1) ∧ MS w W' fb (writeA F m a bs).2.1 so (writeA F m a bs).2.2 ∧ KeepT W W' := by
  obtain ⟨lb, cap, sb, bt, q, ms, h, rfl, rfl⟩ := h
  exact (asWrite h (i := 0) (by decide) a ha hb hl).mono fun e W' ⟨h1, q', h2, h3⟩ => ⟨h1, ⟨lb, cap, sb, bt, q', _, h2, rfl, updS_same _ _ _⟩, h3⟩
theorem msPages (h : MS w W fb F so m) :
    Calls Try.prog 15 #[.pointer (some ⟨so, 0, none⟩)] W fun e W' => e = .returned (pgV F m) ∧ Below W.heap.size W W' := by
  obtain ⟨lb, cap, bt, q, hf⟩ := h.fs
  exact pages_any hf h.ok
theorem msFree (h : MS w W fb F so m) : Calls Try.prog 13 #[.pointer (some ⟨fb, 0, none⟩)] W fun e w' => e = .returned (.int .i64 (freeN F)) ∧ Below W.heap.size W w' := by
  obtain ⟨lb, cap, bt, q, hf⟩ := h.fs
  exact frFree_any hf.f
theorem msPage (h : MS w W fb F so m) (p : Nat) (hp : p < 64) :
    Calls Try.prog 25 #[.pointer (some ⟨so, 0, none⟩), .int .i64 (p : Int)] W fun e w' => ∃ v, e = .returned v ∧ w'.ownsRow W.heap.size 5 1 v (pageP F m p).length ((pageP F m p).map fun x => Value.int .u8 x) ∧ Below W.heap.size W w' := by
  obtain ⟨lb, cap, bt, q, hf⟩ := h.fs
  exact spPage_any hf h.ok p hp
theorem msFrame (h : MS w W fb F so m) (a : Nat) (ha : a < 4096) :
    Calls Try.prog 22 #[.pointer (some ⟨so, 0, none⟩), .int .u32 a] W fun e w' => e = .returned (.tuple #[.int .i64 (frameP m a).1, .bool (frameP m a).2]) ∧ Below W.heap.size W w' := by
  obtain ⟨lb, cap, bt, q, hf⟩ := h.fs
  exact spFrame_any hf a ha
/-- The rows of what List tells. -/
def listR (m : M) : List (List Value) := (list m).map mapCells
theorem listR_len (m : M) : (listR m).length = (list m).length := List.length_map ..
/-- Rows in a block that is known. -/
structure RowB (W : World) (A : Option Addr) (t : TypeId) (k : Nat) (rows : List (List Value)) : Prop where
  r : RowsAt W A k rows
  b : ∀ i, i < rows.length → ∃ g off cs, A = some ⟨g, off, none⟩ ∧ Blk W g t cs
theorem RowB.keep {W W' : World} {A : Option Addr} {t : TypeId} {k : Nat} {rows : List (List Value)} (h : RowB W A t k rows) (hk : KeepT W W') (h1 : t ≠ 99) (h2 : t ≠ 74) (h3 : t ≠ 105) : RowB W' A t k rows := by
  refine ⟨fun i r hr => ?_, fun i hi => ?_⟩
  · obtain ⟨g, off, cs, hA, hb⟩ := h.b i (List.getElem?_eq_some_iff.1 hr).1
    obtain ⟨g', off', hA', hlt, hc⟩ := h.r i r hr
    rw [hA] at hA'
    injection hA' with e
    injection e with e1 e2
    subst e1 e2
    have hb' := hk.2 g t cs h1 h2 h3 hb
    exact ⟨g, off, hA, hb'.lt, fun j v hv => by rw [hb'.cell, ← hb.cell]; exact hc j v hv⟩
  · obtain ⟨g, off, cs, hA, hb⟩ := h.b i hi
    exact ⟨g, off, cs, hA, hk.2 g t cs h1 h2 h3 hb⟩
theorem msList (h : MS w W fb F so m) :
    Calls Try.prog 18 #[.pointer (some ⟨so, 0, none⟩)] W fun e W' => ∃ A c, e = .returned (.slice A (list m).length c) ∧ RowB W' A 62 6 (listR m) ∧ Below W.heap.size W W' := by
  obtain ⟨lb, cap, bt, q, hf⟩ := h.fs
  refine (spList_any hf).mono ?_
  rintro e W' ⟨v, rfl, hrow, _, hb⟩
  have hfl : (list m).flatMap mapCells = (listR m).flatten := by unfold listR; rw [List.flatMap_def]
  rw [hfl, ← listR_len] at hrow
  obtain ⟨A, c, rfl, hR, _⟩ := rows_own (fun r hr => by unfold listR at hr; rw [List.mem_map] at hr; obtain ⟨y, _, rfl⟩ := hr; rfl) hrow
  rw [listR_len]
  refine ⟨A, c, rfl, ⟨hR, fun i hi => ?_⟩, hb⟩
  rcases hrow.2 with ⟨_, h0⟩ | ⟨g, cap, cur, e, _, hg, _⟩
  · omega
  · injection e with e1 _ _
    exact ⟨g, 0, cur, e1, hg⟩
theorem msDirty (h : MS w W fb F so m) :
    Calls Try.prog 23 #[.pointer (some ⟨so, 0, none⟩)] W fun e W' => ∃ A c, e = .returned (.slice A (filt E.d (list m)).length c) ∧ Below W.heap.size W W' := by
  obtain ⟨lb, cap, bt, q, hf⟩ := h.fs
  refine (spDirty_any hf).mono ?_
  rintro e W' ⟨v, rfl, hrow, hb⟩
  rcases hrow.2 with ⟨rfl, h0⟩ | ⟨g, cap, cur, rfl, _⟩
  · exact ⟨none, 0, by rw [h0], hb⟩
  · exact ⟨_, cap, rfl, hb⟩
theorem msSpace {lb n : Nat} (h : FrAt W fb lb n (Fs.new n)) (hn : 1 ≤ n ∧ n ≤ 256) (hl : Below w.heap.size w W) (h1 : w.heap.size ≤ fb) (h2 : w.heap.size ≤ lb) :
    Calls Try.prog 10 #[.pointer (some ⟨fb, 0, none⟩)] W fun e W' => ∃ so, e = .returned (.pointer (some ⟨so, 0, none⟩)) ∧ MS w W' fb (Fs.new n) so m0 :=
  (asSpace h hn hl h1 h2).mono fun e W' ⟨so, bo, h1, h2, _⟩ => ⟨so, h1, _, _, _, _, _, _, h2, rfl, rfl⟩
end
/-- What Map answers. -/
theorem mapA_cases (F : Fs) (m : M) (p n : Int) (wr sh : Bool) : mapA F m p n wr sh = (22, F, m) ∨ (mapA F m p n wr sh = (12, F, m) ∧ freeN F < n) ∨
    ∃ P N : Nat, p = P ∧ n = N ∧ 1 ≤ N ∧ P + N ≤ 64 ∧ cntP m P N = 0 ∧ (N : Int) ≤ freeN F ∧ mapA F m p n wr sh = (0, (mapGo F m P wr sh N).1, (mapGo F m P wr sh N).2) := by
  unfold mapA
  by_cases hp : inP p n
  · rw [if_pos hp]
    obtain ⟨h1, h2, h3, h4⟩ := hp
    by_cases hc : cntP m p.toNat n.toNat = 0
    · rw [if_neg (fun e => e hc)]
      by_cases hf : freeN F < n
      · rw [if_pos hf]; exact .inr (.inl ⟨rfl, hf⟩)
      · rw [if_neg hf]; exact .inr (.inr ⟨p.toNat, n.toNat, by omega, by omega, by omega, by omega, hc, by omega, rfl⟩)
    · rw [if_pos hc]; exact .inl rfl
  · rw [if_neg hp]; exact .inl rfl
theorem pageP_ext {F F' : Fs} {m : M} (h : ∀ k, F'.b k = F.b k) (p : Nat) : pageP F' m p = pageP F m p := by
  unfold pageP
  cases m p with
  | none => rfl
  | some x => exact h _
theorem pgV_ext {F F' : Fs} {m m' : M} (h : ∀ p, p < 64 → pageP F' m' p = pageP F m p) : pgV F' m' = pgV F m := by
  unfold pgV pgL
  congr 2
  refine List.map_congr_left fun p hp => ?_
  rw [h p (List.mem_range.1 hp)]
/-- All that the law asks of pages that are mapped. -/
structure Maps (F : Fs) (m : M) (P N : Nat) (sh : Bool) (F1 : Fs) (m1 : M) (F2 : Fs) : Prop where
  free1 : freeN F1 = freeN F - N
  un : unmapA F1 m1 P N = (0, F2, m)
  un2 : unmapA F2 m P N = (22, F2, m)
  free2 : freeN F2 = freeN F
  pages : pgV F2 m = pgV F m
  dirty : N ≤ (filt E.d (list m1)).length
  zero : ∀ j, j < N → pageP F1 m1 (P + j) = z64 ∧ (frameP m1 ((P + j) * 64)).2 = sh ∧ pageP F m (P + j) = []
theorem maps_law {F : Fs} {m : M} (h : GI F (fun _ => m) 1) {P N : Nat} (hN : 1 ≤ N) (hP : P + N ≤ 64) (hc : cntP m P N = 0) (hf : (N : Int) ≤ freeN F) (wr sh : Bool) :
    Maps F m P N sh (mapGo F m P wr sh N).1 (mapGo F m P wr sh N).2 (unmapGo (mapGo F m P wr sh N).1 (mapGo F m P wr sh N).2 P N).1 := by
  obtain ⟨h1, h2, h3, h4, h5⟩ := map_back h (i := 0) (p := P) (n := N) (by decide) hP hc hf wr sh
  have hnew := fun j hj => mapGo_new (m := m) (p := P) hf wr sh N (Nat.le_refl _) j hj
  have hin : inP (P : Int) (N : Int) := ⟨by omega, by omega, by omega, by omega⟩
  refine ⟨mapGo_free F m P wr sh N hf, ?_, ?_, h4, pgV_ext fun p _ => pageP_ext h3 p, ?_, fun j hj => ⟨map_zero h (i := 0) hf wr sh hj, ?_, ?_⟩⟩
  · unfold unmapA
    rw [if_pos hin, Int.toNat_natCast, Int.toNat_natCast, if_neg (fun e => e h5), h1]
  · unfold unmapA
    rw [if_pos hin, Int.toNat_natCast, Int.toNat_natCast, if_pos (by rw [hc]; omega)]
  · have hd := dirtyN (m := (mapGo F m P wr sh N).2) (p := P) (n := N) (fun j hj => by
      obtain ⟨f, hf, _⟩ := hnew j hj
      exact ⟨_, hf, rfl⟩) 64
    unfold list
    omega
  · obtain ⟨f, hf, _⟩ := hnew j hj
    unfold frameP
    rw [show (P + j) * 64 / 64 = P + j by omega, look_in _ (show P + j < 64 by omega), hf]
  · unfold pageP
    rw [cntP_none hc j hj]
end Go.Proofs.Ytolejpbdbjkndaa
