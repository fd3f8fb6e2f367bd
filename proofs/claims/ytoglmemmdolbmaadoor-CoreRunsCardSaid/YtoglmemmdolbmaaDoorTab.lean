/-
  Package-level tables: what a row lists of a variable, and the block that holds it. Generic: for any program. No condition.
-/
import Derived.OpenShut
import Derived.LaidMore
import Derived.ProofKit
import Derived.Test.YtoglmemmdolbmaaDoorIter
namespace Go.Proofs.YtoglmemmdolbmaaDoor
open Go.ChangeShapes Go.WideShapes Go.RowKit
set_option linter.unusedVariables false
set_option linter.unusedSimpArgs false

theorem take_drop_flat {α β : Type} (c : α → List β) (k : Nat) (hk : ∀ x, (c x).length = k) : ∀ (L : List α) (cs : List β), cs.length = L.length * k → (∀ i x, L[i]? = some x → (cs.drop (i * k)).take k = c x) → cs = L.flatMap c
  | [], cs, hl, _ => by simpa using hl
  | x :: L, cs, hl, h => by
    have h0 := h 0 x rfl
    rw [Nat.zero_mul, List.drop_zero] at h0
    have hlen : cs.length = L.length * k + k := by rw [hl, List.length_cons, Nat.succ_mul]
    have ih := take_drop_flat c k hk L (cs.drop k) (by rw [List.length_drop, hlen]; omega) (fun i y hy => by
      have := h (i + 1) y (by simpa using hy)
      rw [List.drop_drop]
      rw [Nat.succ_mul, Nat.add_comm] at this
      exact this)
    rw [List.flatMap_cons, ← h0, ← ih, List.take_append_drop]
theorem arr_cells {P : Program} {W : World} {sp : Nat → Bool} {H : Type} {enc : TypeId × Value → H} {held : Bool} {α : Type} (d : α → DataW H) (c : α → List Value) (k : Nat) (hk : ∀ x, (c x).length = k) {t e : TypeId} {n : Nat} (ht : P.underlying t = some (.array n e)) (hC : P.cellsOf e = k) (hT : P.cellsOf t = n * k)
    (hel : ∀ m cs y x, DataW.trod enc P W 0 sp held m e cs = some y → y.1 = d x → cs = c x) (L : List α) {fuel : Nat} {cs : List Value} {p : List MemPlace}
    (h : DataW.trod enc P W 0 sp held fuel t cs = some (.agg (L.map d), p)) : cs = L.flatMap c := by
  obtain ⟨xs, m, rfl, hx, hlen, hn, hi⟩ := DataW.trod_array ht h
  injection hx with hx _
  injection hx with hx
  have hL : L.length = n := by have := congrArg List.length hx; simpa [hn] using this
  refine take_drop_flat c k hk L cs (by rw [hlen, hT, hL]) (fun i x hx' => ?_)
  have hil : i < n := by rw [← hL]; exact (List.getElem?_eq_some_iff.1 hx').1
  have h1 := hi i hil
  rw [hC] at h1
  obtain ⟨y, hy⟩ : ∃ y, xs[i]? = some y := ⟨_, List.getElem?_eq_getElem (by omega)⟩
  rw [hy] at h1
  refine hel m _ y x h1 ?_
  have := congrArg (fun l => l[i]?) hx
  simp only [List.getElem?_map, hx', hy, Option.map_some, Option.some.injEq] at this
  exact this.symm
/-- A variable that is listed holds its datum in a block of its own, none of it frozen. -/
theorem laid_at {P : Program} {W : World} : ∀ (l : List (String × DataW Unit)) (ps : List MemPlace), DataW.LaidVars P W l ps → ∀ n d, (n, d) ∈ l →
    ∃ g t cs fuel p, P.globalNamed n = some g ∧ (P.globals[g]?).map (·.type) = some t ∧ W.var? P n = some cs ∧ DataW.trod (fun _ => ()) P W 0 (fun _ => true) false fuel t cs.toList = some (d, p) ∧ (∀ x ∈ MemPlace.row ⟨g, 0, none⟩ cs.size, x ∈ ps)
  | [], _, _, _, _, hm => by cases hm
  | (n', d') :: r, ps, h, n, d, hm => by
    obtain ⟨g, t, cs, fuel, p, q, hg, ht, hv, hd, hq, rfl⟩ := h
    rcases List.mem_cons.1 hm with e | hm
    · injection e with e1 e2
      subst e1 e2
      exact ⟨g, t, cs, fuel, p, hg, ht, hv, hd, fun x hx => by simp [hx]⟩
    · obtain ⟨g', t', cs', fuel', p', h1, h2, h3, h4, h5⟩ := laid_at r q hq n d hm
      exact ⟨g', t', cs', fuel', p', h1, h2, h3, h4, fun x hx => by simp [h5 x hx]⟩
theorem laid_heap {P : Program} {W : World} {l : List (String × DataW Unit)} (h : laidMet P l W) {n : String} {d : DataW Unit} (hm : (n, d) ∈ l) :
    ∃ g t cs fuel p, P.globalNamed n = some g ∧ (P.globals[g]?).map (·.type) = some t ∧ DataW.trod (fun _ => ()) P W 0 (fun _ => true) false fuel t cs.toList = some (d, p) ∧ (0 < cs.size → ∃ t', W.heap[g]? = some (.cells cs t' (0, 0))) := by
  obtain ⟨ps, hL, _, hp⟩ := h
  obtain ⟨g, t, cs, fuel, p, hg, ht, hv, hd, hx⟩ := laid_at l ps hL n d hm
  refine ⟨g, t, cs, fuel, p, hg, ht, hd, fun hs => ?_⟩
  have hmem : MemPlace.cell g 0 ∈ MemPlace.row ⟨g, 0, none⟩ cs.size := by
    unfold MemPlace.row
    rw [List.mem_map]
    exact ⟨0, List.mem_range.2 hs, rfl⟩
  obtain ⟨⟨c, t', hc⟩, _⟩ := hp g 0 (hx _ hmem)
  refine ⟨t', ?_⟩
  simp only [World.var?, hg, Option.bind_some, hc] at hv
  injection hv with hv
  rw [hc, hv]
theorem tab_flat {α : Type} (c : α → List Value) (k : Nat) (hk : ∀ x, (c x).length = k) : ∀ (l : List α) (i j : Nat) (x : α), j < k → l[i]? = some x → (l.flatMap c)[i * k + j]? = (c x)[j]?
  | [], i, j, x, _, h => by simp at h
  | y :: l, 0, j, x, hj, h => by
    simp only [List.getElem?_cons_zero, Option.some.injEq] at h
    subst h
    rw [Nat.zero_mul, Nat.zero_add, List.flatMap_cons, List.getElem?_append_left (by rw [hk]; exact hj)]
  | y :: l, i + 1, j, x, hj, h => by
    rw [List.flatMap_cons, List.getElem?_append_right (by rw [hk, Nat.succ_mul]; omega), hk]
    have := tab_flat c k hk l i j x hj (by simpa using h)
    rw [← this]
    congr 1
    rw [Nat.succ_mul]; omega
/-- A string and a number side by side. -/
def pairSI (x : List UInt8 × Int) : List Value := [.string ⟨x.1.toArray⟩, .int .i64 x.2]
def pairIS (x : Int × List UInt8) : List Value := [.int .i64 x.1, .string ⟨x.2.toArray⟩]
theorem bytes_of {s : ByteArray} {l : List UInt8} (h : s.data.toList = l) : s = ⟨l.toArray⟩ := by
  cases s; simp at h; rw [← h]
section
variable {H : Type} {enc : TypeId × Value → H} {P : Program} {W : World} {sp : Nat → Bool} {held : Bool}
theorem trod_pairSI {e ts ti : TypeId} {f0 f1 : Field} (he : P.underlying e = some (.struct #[f0, f1])) (h0 : f0.type = ts ∧ f0.offset = 0) (h1 : f1.type = ti ∧ f1.offset = 1) (hs : P.underlying ts = some .string) (hi : P.underlying ti = some (.int .i64))
    (cs : P.cellsOf ts = 1) (ci : P.cellsOf ti = 1) (ce : P.cellsOf e = 2) : ∀ m c y (x : List UInt8 × Int), DataW.trod enc P W 0 sp held m e c = some y → y.1 = .agg [.lit (.string x.1), .lit (.int .i64 x.2)] → c = pairSI x := by
  intro m c y x h hy
  obtain ⟨xs, n, rfl, rfl, hlen, hxl, hf⟩ := DataW.trod_struct he h
  rw [ce] at hlen
  match c, hlen with
  | [c0, c1], _ =>
    match xs, hxl with
    | [y0, y1], _ =>
      have g0 := hf 0 f0 rfl
      have g1 := hf 1 f1 rfl
      rw [h0.1, h0.2, cs] at g0
      rw [h1.1, h1.2, ci] at g1
      simp only [List.drop_zero, List.drop_succ_cons, List.take_succ_cons, List.take_zero, List.getElem?_cons_zero, List.getElem?_cons_succ] at g0 g1
      obtain ⟨s, e0, e0', _⟩ := DataW.trod_string hs g0
      obtain ⟨k, e1, e1', _⟩ := DataW.trod_int hi g1
      subst e0' e1'
      simp only [List.map_cons, List.map_nil, DataW.agg.injEq, List.cons.injEq, DataW.lit.injEq, Lit.string.injEq, Lit.int.injEq, true_and, and_true] at hy
      injection e0 with e0 _
      injection e1 with e1 _
      rw [e0, e1, hy.2, bytes_of hy.1]
      rfl
theorem trod_pairIS {e ts ti : TypeId} {f0 f1 : Field} (he : P.underlying e = some (.struct #[f0, f1])) (h0 : f0.type = ti ∧ f0.offset = 0) (h1 : f1.type = ts ∧ f1.offset = 1) (hs : P.underlying ts = some .string) (hi : P.underlying ti = some (.int .i64))
    (cs : P.cellsOf ts = 1) (ci : P.cellsOf ti = 1) (ce : P.cellsOf e = 2) : ∀ m c y (x : Int × List UInt8), DataW.trod enc P W 0 sp held m e c = some y → y.1 = .agg [.lit (.int .i64 x.1), .lit (.string x.2)] → c = pairIS x := by
  intro m c y x h hy
  obtain ⟨xs, n, rfl, rfl, hlen, hxl, hf⟩ := DataW.trod_struct he h
  rw [ce] at hlen
  match c, hlen with
  | [c0, c1], _ =>
    match xs, hxl with
    | [y0, y1], _ =>
      have g0 := hf 0 f0 rfl
      have g1 := hf 1 f1 rfl
      rw [h0.1, h0.2, ci] at g0
      rw [h1.1, h1.2, cs] at g1
      simp only [List.drop_zero, List.drop_succ_cons, List.take_succ_cons, List.take_zero, List.getElem?_cons_zero, List.getElem?_cons_succ] at g0 g1
      obtain ⟨k, e0, e0', _⟩ := DataW.trod_int hi g0
      obtain ⟨s, e1, e1', _⟩ := DataW.trod_string hs g1
      subst e0' e1'
      simp only [List.map_cons, List.map_nil, DataW.agg.injEq, List.cons.injEq, DataW.lit.injEq, Lit.string.injEq, Lit.int.injEq, true_and, and_true] at hy
      injection e0 with e0 _
      injection e1 with e1 _
      rw [e0, e1, hy.1, bytes_of hy.2]
      rfl
end
end Go.Proofs.YtoglmemmdolbmaaDoor
