/-
  Walks over package boot: the iterator over a program's pages. No condition.
-/
import Derived.Deep.AppendLies
import Derived.Test.YtpikgebfeleajaaBoot3
namespace Go.Proofs.Ytpikgebfeleajaa
open Go.RowKit Go.Shelf
set_option linter.unusedVariables false
set_option linter.unusedSimpArgs false
attribute [local go_sem] Oper.semAt_some

/-- A page as the iterator tells it: its number, where its bytes lie, its bytes. -/
structure Pg where
  n : Nat
  g : Nat
  off : Nat
  bs : List Int
def encP (y : Pg) : Array Value := #[.int .i64 (y.n : Int), .slice (some ⟨y.g, y.off, none⟩) y.bs.length y.bs.length]
def Pg.nb (y : Pg) : Nat × List Int := (y.n, y.bs)
def MmP (y : Pg) (W : World) : Prop := BytesAt W (some ⟨y.g, y.off, none⟩) y.bs ∧ (y.bs.length ≤ 64 ∧ y.n ≤ 64)
theorem rowsAt_own {β : Type} (A : Option Addr) (k : Nat) (rows : List (List Value)) : Own (fun (_ : β) W => RowsAt W A k rows) := fun s X Y row hs hg hr => fun i r hi => by
  obtain ⟨b, off, hA, hlt, hc⟩ := hs i r hi
  exact ⟨b, off, hA, Nat.lt_of_lt_of_le hlt hg.size, fun j v hv => cell_kept (hc j v hv) hg hr⟩
theorem own_pure {β : Type} (p : β → Prop) : Own (fun (s : β) (_ : World) => p s) := fun _ _ _ _ hs _ _ => hs
theorem mmP_own (y : Pg) (B : Nat) : OwnFrom B (fun (_ : Unit) W => MmP y W) := OwnFrom.and (Own.from (rowsAt_own _ _ _) _) (Own.from (own_pure (fun _ => y.bs.length ≤ 64 ∧ y.n ≤ 64)) _)
/-- What a round keeps: what lay below n₀; the iterator's boot; what the iterator has made. -/
def KpP (n₀ Bn B2 : Nat) (A B : World) : Prop := Below n₀ A B ∧ B.heap[Bn]? = A.heap[Bn]? ∧ ∀ k, B2 ≤ k → k < A.heap.size → B.heap[k]? = A.heap[k]?
def chunkB (bs : List Int) (k : Nat) : List Int := (bs.drop (64 * k)).take 64
theorem chunkB_len (bs : List Int) (k : Nat) : (chunkB bs k).length = chunkLen bs.length k := by unfold chunkB chunkLen; rw [List.length_take, List.length_drop]
def chunkList (bs : List Int) : List (Nat × List Int) := (List.finRange (chunks bs.length)).map fun k => (k.val, chunkB bs k.val)
def pagesL (may : Bool) (ws : List Int) : List (Nat × List Int) := if may then chunkList (bytesL ws) else []
/-- The pages told when the inner chunks ks have come. -/
def outP {m : Nat} (g : Nat) (bs : List Int) (ks : List (Fin m)) : List Pg := ks.zipIdx.map fun x => ⟨x.2, g, 64 * x.1.val, chunkB bs x.1.val⟩
theorem outP_snoc {m : Nat} (g : Nat) (bs : List Int) (ks : List (Fin m)) (x : Fin m) : outP g bs (ks ++ [x]) = outP g bs ks ++ [⟨ks.length, g, 64 * x.val, chunkB bs x.val⟩] := by
  unfold outP; rw [List.zipIdx_append, List.map_append]; simp
theorem outP_len {m : Nat} (g : Nat) (bs : List Int) (ks : List (Fin m)) : (outP g bs ks).length = ks.length := by unfold outP; simp
theorem outP_take {m : Nat} (g : Nat) (bs : List Int) : ∀ k, k ≤ m → (outP g bs ((List.finRange m).take k)).map Pg.nb = ((List.finRange m).map fun k => (k.val, chunkB bs k.val)).take k
  | 0, _ => by simp [outP]
  | k + 1, h => by
    have hk : k < m := by omega
    rw [finRange_take hk, outP_snoc, List.map_append, outP_take g bs k (by omega), List.take_add_one]
    congr 1
    rw [List.length_take]
    simp [Pg.nb, hk, Nat.min_eq_left (Nat.le_of_lt hk)]
theorem outP_all {m : Nat} (g : Nat) (bs : List Int) : (outP g bs (List.finRange m)).map Pg.nb = (List.finRange m).map fun k => (k.val, chunkB bs k.val) := by
  have := outP_take (m := m) g bs m (Nat.le_refl _)
  rw [finRange_all (Nat.le_refl _)] at this
  rw [this, List.take_of_length_le (by simp)]
theorem outP_pre {m : Nat} (g : Nat) (bs : List Int) {pre : List (Fin m)} (h : pre <+: List.finRange m) : (outP g bs pre).map Pg.nb <+: (List.finRange m).map fun k => (k.val, chunkB bs k.val) := by
  have hp : pre = (List.finRange m).take pre.length := List.prefix_iff_eq_take.1 h
  have hl : pre.length ≤ m := by have := h.length_le; simpa using this
  have := outP_take (m := m) g bs pre.length hl
  rw [← hp] at this
  rw [this]
  exact List.take_prefix _ _
theorem bytes_chunk {W : World} {g : Nat} {bs : List Int} (h : BytesAt W (some ⟨g, 0, none⟩) bs) (k : Nat) : BytesAt W (some ⟨g, 64 * k, none⟩) (chunkB bs k) := fun i r hr => by
  rw [List.getElem?_map] at hr
  obtain ⟨x, hx, rfl⟩ := Option.map_eq_some_iff.1 hr
  unfold chunkB at hx
  rw [List.getElem?_take] at hx
  split at hx
  · rw [List.getElem?_drop] at hx
    obtain ⟨b, off, hA, hlt, hc⟩ := h (64 * k + i) (bC x) (by rw [List.getElem?_map, hx]; rfl)
    injection hA with hA
    injection hA with e1 e2 _
    subst e1 e2
    exact ⟨g, 64 * k, rfl, hlt, fun j v hv => by have := hc j v hv; simpa [Nat.mul_one] using this⟩
  · cases hx
theorem room_none (k : Nat) : Fence.wide.room k := fun d h => by cases h
theorem yield_deep {m : Nat} (m' l' : Nat) {P : Program} {l : Nat} {args : Array Value} {W : World} {R : Ending → World → Prop} (h : YieldAt Fence.wide m P l args W R) : YieldAt (Fence.wide.inRound l') m' P l args W R := by
  obtain ⟨fn, tmps, assign, body, hy, h1, h2⟩ := h
  exact ⟨fn, tmps, assign, body, hy, h1, fun c cs _ => h2 c cs (room_none _)⟩

theorem pages_in (n : Nat) (c f p q : Int) (A : Option Addr) (len cap : Nat) (w : World) :
    CallsIn Fence.wide n Try.prog 8 #[bootV c f p q A len cap] w fun e w' => e = .returned (.func (.func 11) #[] #[.pointer (some ⟨w.heap.size, 0, none⟩)]) ∧ w' = w.alloc (.cells #[.int .i64 c, .int .i64 f, .int .i64 p, .int .i64 q, .slice A len cap] 24) := by
  unfold bootV
  refine callsIn_of_wp Try.func8 rfl trivial ?_ rfl
  simp only [Try.ntmps8, List.size_toArray, List.length_cons, List.length_nil, Nat.reduceAdd, Nat.reduceSub, Array.replicate_succ, Array.replicate_zero, List.push_toArray, List.append_toArray, List.nil_append, List.cons_append]
  gi_wp2
  go_ret
  exact ⟨rfl, rfl⟩
theorem rcells {w : World} {g : Nat} {t : TypeId} {a b c d e : Value} (h : Blk w g t #[a, b, c, d, e]) : w.cell? ⟨g, 0, none⟩ = some a ∧ w.cell? ⟨g, 1, none⟩ = some b ∧ w.cell? ⟨g, 2, none⟩ = some c ∧ w.cell? ⟨g, 3, none⟩ = some d ∧ w.cell? ⟨g, 4, none⟩ = some e ∧ g < w.heap.size :=
  ⟨h.cell 0, h.cell 1, h.cell 2, h.cell 3, h.cell 4, h.lt⟩
theorem ownB_some {w : World} {base : Nat} {v : Value} {l : List Int} (h : OwnB w base v l) (hp : 0 < l.length) : ∃ g cv, v = .slice (some ⟨g, 0, none⟩) l.length cv ∧ base ≤ g ∧ l.length ≤ cv ∧ cv ≤ 9223372036854775807 ∧ BytesAt w (some ⟨g, 0, none⟩) l ∧ g < w.heap.size := by
  obtain ⟨A, c, hv, hB, _⟩ := ownB_at h
  rcases h.2 with ⟨_, h0⟩ | ⟨g, cap, cur, e, hb, hg, hnc, hm, _⟩
  · omega
  · rw [e] at hv
    injection hv with e1 e2 e3
    subst e1
    unfold maxLen at hm
    exact ⟨g, cap, e, hb, hnc, by omega, hB, (Array.getElem?_eq_some_iff.1 hg).1⟩
theorem below_own {B : Nat} {β : Type} {J : β → World → Prop} {C : Nat} (h : Priv B C J) {s : β} {W W' : World} (hs : J s W) (hb : Below W.heap.size W W') : J s W' := h.below hs hb

end Go.Proofs.Ytpikgebfeleajaa
