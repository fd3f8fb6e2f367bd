/-
  Operations in memory; what a call owns; the ground that the calls stand on. No condition.
-/
import Derived.StillTailTactics
import Derived.Test.YtgefnicpkfcghaaDoorRowMem
import Derived.Test.YtgefnicpkfcghaaDoorSc5
import Derived.Test.YtgefnicpkfcghaaDoorStr4
namespace Go.Proofs.YtgefnicpkfcghaaDoor
open Go.RowKit
set_option linter.unusedVariables false
set_option linter.unusedSimpArgs false

abbrev OpsAt (w : World) (A : Option Addr) (l : List O) : Prop := RowsAt w A 7 (l.map O.cells)
theorem op_at {w : World} {A : Option Addr} {l : List O} (h : OpsAt w A l) {i : Nat} {x : O} (hx : l[i]? = some x) : ∃ b off, A = some ⟨b, off, none⟩ ∧ b < w.heap.size ∧
    w.cell? ⟨b, off + i * 7, none⟩ = some (.int .i64 x.k) ∧ w.cell? ⟨b, off + i * 7 + 1, none⟩ = some (.int .i64 x.co) ∧ w.cell? ⟨b, off + i * 7 + 2, none⟩ = some (.int .i64 x.n) ∧ w.cell? ⟨b, off + i * 7 + 3, none⟩ = some (.int .i64 x.p) ∧ w.cell? ⟨b, off + i * 7 + 4, none⟩ = some (.int .i64 x.s) ∧ w.cell? ⟨b, off + i * 7 + 5, none⟩ = some (.int .u32 x.m) ∧ w.cell? ⟨b, off + i * 7 + 6, none⟩ = some (.string x.w) := by
  obtain ⟨b, off, hA, hb, hc⟩ := h i x.cells (by rw [List.getElem?_map, hx]; rfl)
  exact ⟨b, off, hA, hb, hc 0 _ rfl, hc 1 _ rfl, hc 2 _ rfl, hc 3 _ rfl, hc 4 _ rfl, hc 5 _ rfl, hc 6 _ rfl⟩
theorem op_here {w : World} {b off : Nat} {l : List O} (h : OpsAt w (some ⟨b, off, none⟩) l) {i : Nat} {x : O} (hx : l[i]? = some x) : b < w.heap.size ∧
    w.cell? ⟨b, off + i * 7, none⟩ = some (.int .i64 x.k) ∧ w.cell? ⟨b, off + i * 7 + 1, none⟩ = some (.int .i64 x.co) ∧ w.cell? ⟨b, off + i * 7 + 2, none⟩ = some (.int .i64 x.n) ∧ w.cell? ⟨b, off + i * 7 + 3, none⟩ = some (.int .i64 x.p) ∧ w.cell? ⟨b, off + i * 7 + 4, none⟩ = some (.int .i64 x.s) ∧ w.cell? ⟨b, off + i * 7 + 5, none⟩ = some (.int .u32 x.m) ∧ w.cell? ⟨b, off + i * 7 + 6, none⟩ = some (.string x.w) := by
  obtain ⟨b', off', hA, r⟩ := op_at h hx
  injection hA with hA
  injection hA with e1 e2 _
  subst e1 e2
  exact r
theorem infoO : (Tryd.prog.info? 24).map (fun i => (i.zero, i.size, i.bytes)) = some (some (.agg #[.int .i64 0, .int .i64 0, .int .i64 0, .int .i64 0, .int .i64 0, .int .u32 0, .string ⟨#[]⟩]), 7, 64) := by kernel_rfl
abbrev OwnO (w : World) (base : Nat) (v : Value) (l : List O) : Prop := w.ownsRow base 24 7 v l.length (l.flatMap O.cells)
theorem ownO_at {w : World} {base : Nat} {v : Value} {l : List O} (h : OwnO w base v l) : ∃ A c, v = .slice A l.length c ∧ OpsAt w A l ∧ ∀ b off, A = some ⟨b, off, none⟩ → base ≤ b := by
  have := rows_own (k := 7) (w := w) (v := v) (base := base) (t := 24) (rows := l.map O.cells) (fun r hr => by obtain ⟨x, _, rfl⟩ := List.mem_map.1 hr; rfl) (by rw [List.length_map, ← List.flatMap_def]; exact h)
  rwa [List.length_map] at this
theorem ownO_snoc {w : World} {base : Nat} {v : Value} {l : List O} {x : O} (h : w.ownsRow base 24 7 v (l.length + 1) (l.flatMap O.cells ++ x.cells)) : OwnO w base v (l ++ [x]) := by
  unfold OwnO
  rw [List.length_append, List.flatMap_append]
  simpa using h
theorem below_grown {B : Nat} {w w1 w2 : World} {row : Option Nat} (h : Below B w w1) (hg : w1.grownBy w2 row) (hr : ∀ r, row = some r → B ≤ r) (hB : B ≤ w1.heap.size) : Below B w w2 :=
  ⟨hg.os.trans h.os, hg.tape.trans h.tape, hg.output.trans h.output, Nat.le_trans h.size hg.size, fun k hk => (hg.block k (by omega) (fun e => by have := hr k e.symm; omega)).trans (h.block k hk)⟩
theorem own_block {w : World} {base : Nat} {t : TypeId} {s : Nat} {v : Value} {n : Nat} {cs : List Value} (h : w.ownsRow base t s v n cs) : ∀ r, v.ownBlock = some r → base ≤ r := by
  rcases h.2 with ⟨rfl, _⟩ | ⟨g, cap, cur, rfl, hb, _⟩
  · intro r h; simp [Value.ownBlock] at h
  · intro r h; simp [Value.ownBlock] at h; omega
theorem ownsRow_below {w w' : World} {base : Nat} {e : TypeId} {size : Nat} {v : Value} {k : Nat} {xs : List Value} (h : w.ownsRow base e size v k xs) (hb : Below w.heap.size w w') : w'.ownsRow base e size v k xs :=
  h.kept (grownBy_below hb) (by cases v.ownBlock <;> simp)
theorem own_lower {w : World} {b b' : Nat} {t : TypeId} {s : Nat} {v : Value} {n : Nat} {cs : List Value} (h : w.ownsRow b t s v n cs) (hb : b' ≤ b) : w.ownsRow b' t s v n cs := by
  refine ⟨h.1, ?_⟩
  rcases h.2 with h2 | ⟨g, cap, cur, h3, h4, h5⟩
  · exact .inl h2
  · exact .inr ⟨g, cap, cur, h3, Nat.le_trans hb h4, h5⟩
theorem own_set {w : World} {base : Nat} {t : TypeId} {s : Nat} {v : Value} {n : Nat} {cs : List Value} {p : Addr} (h : w.ownsRow base t s v n cs) (hp : p.block < base) (u : Value) : (w.setCell p u).ownsRow base t s v n cs := by
  have hg : w.grownBy (w.setCell p u) (some p.block) := ⟨rfl, rfl, rfl, by simp [World.setCell], fun k hk hkn => Below.heap_setCell w p u k (fun e => hkn (by rw [e]))⟩
  refine h.kept hg ?_
  rcases h.2 with ⟨rfl, _⟩ | ⟨g, cap, cur, rfl, hb, _⟩
  · exact .inl rfl
  · refine .inr (fun e => ?_)
    have e' : p.block = g := by simpa [Value.ownBlock] using e.symm
    omega
theorem own_row {w : World} {base : Nat} {t : TypeId} {s : Nat} {v : Value} {n : Nat} {cs : List Value} (h : w.ownsRow base t s v n cs) : ∀ r, v.ownBlock = some r → base ≤ r ∧ ∃ o, w.heap[r]? = some o ∧ o.isCells = true := by
  rcases h.2 with ⟨rfl, _⟩ | ⟨g, cap, cur, rfl, hb, hgb, _⟩
  · intro r e
    simp [Value.ownBlock] at e
  · intro r e
    have e' : g = r := by simpa [Value.ownBlock] using e
    subst e'
    exact ⟨hb, _, hgb, rfl⟩
theorem ownsRow_succ {w : World} {base : Nat} {t : TypeId} {s : Nat} {v : Value} {n : Nat} {cs : List Value} (h : w.ownsRow base t s v (n + 1) cs) : ∃ g cap, v = .slice (some ⟨g, 0, none⟩) (n + 1) cap := by
  rcases h.2 with ⟨_, hz⟩ | ⟨g, cap, cur, hv, _⟩
  · omega
  · exact ⟨g, cap, hv⟩
/-- What an iterator turns of its own leaves an owned row as it lay. -/
theorem own_walks {w w' : World} {base : Nat} {t : TypeId} {s : Nat} {v : Value} {n : Nat} {cs : List Value} {row : Option Nat} (h : w.ownsRow base t s v n cs) (hg : w.grownBy w' row) (hr : ∀ r, row = some r → ∃ o : Obj, w.heap[r]? = some o ∧ o.isCells = false) : w'.ownsRow base t s v n cs := by
  refine h.kept hg ?_
  rcases h.2 with ⟨rfl, _⟩ | ⟨g, cap, cur, rfl, _, hgb, _⟩
  · exact .inl rfl
  · refine .inr fun e' => ?_
    obtain ⟨o, ho, hc⟩ := hr g (by simpa [Value.ownBlock] using e'.symm)
    rw [hgb] at ho
    injection ho with ho
    rw [← ho] at hc
    cases hc
theorem bl_new {a b : World} (h : Below a.heap.size a b) (o : Obj) : Below a.heap.size a (b.alloc o) := h.alloc h.size o
theorem bl_step {B : Nat} {a b c : World} (h : Below B a b) (hB : B ≤ b.heap.size) (k : Below b.heap.size b c) : Below B a c := h.trans (k.mono hB)

structure Ground (w : World) : Prop where
  pow : Pow w
  max : MaxL w
  errs : Errs w
  words : WordsAt w
theorem Ground.wlt {w : World} (h : Ground w) : 0 < w.heap.size := h.words.lt
theorem Ground.below {w w' : World} (h : Ground w) (hb : Below w.heap.size w w') : Ground w' :=
  ⟨h.pow.below hb, h.max.below hb, h.errs.below hb, h.words.below hb⟩
end Go.Proofs.YtgefnicpkfcghaaDoor
