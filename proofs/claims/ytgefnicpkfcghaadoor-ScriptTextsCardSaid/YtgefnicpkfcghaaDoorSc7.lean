/-
  script.Read: what a line says. Condition: the tables lie as the program's text, and the library's, lay them.
-/
import Derived.Test.YtgefnicpkfcghaaDoorSc6
import Derived.Test.YtgefnicpkfcghaaDoorStr3
namespace Go.Proofs.YtgefnicpkfcghaaDoor
open Go.RowKit Go.Shelf
set_option linter.unusedVariables false
set_option linter.unusedSimpArgs false
attribute [local go_sem] Oper.semAt_some

theorem wpListIn_load_row {F : Fence} {n : Nat} {P : Program} {ops : Array Oper} {rest : List Oper} {o : Oper} {a : Act} {w : World} {Q : Exit → Act → World → Prop} (hgd : o.guard = none) (ty : TypeId) (x : Operand) (ho : o.op = .load ty x)
    (g : Nat) (hx : a.eval x = .pointer (some ⟨g, 0, none⟩)) (t : TypeId) (cs : Array Value) (fr : Nat × Nat) (d : TypeDesc) (hg : w.heap[g]? = some (.cells cs t fr))
    (hu : P.underlying ty = some d) (hd : (match d with | .struct _ | .array _ _ => true | _ => false) = true) (hi : (P.info? ty).map (·.size) = some cs.size)
    (h : wpListIn F n P ops Q rest (a.put o.dst (.agg cs)) w) : wpListIn F n P ops Q (o :: rest) a w := by
  refine wpListIn_plain hgd fun K hK' => ?_
  unfold Oper.wpIn
  refine ⟨?_, ?_⟩
  · simp [Oper.about, ho, Sem.run_pure]
  · rw [Oper.semAt_plain F _ _ (by rw [ho]; intro c hc'; cases hc')]
    simp only [execOp, ho, hx, Instr.loadAt, Instr.sureAddr, Sem.run_bind, Sem.run_pure, Result.andThen_ok, run_loadVar_row w g t ty cs fr d hg hu hd hi]
    exact hK' _ _ h

theorem results_row_cell {P : Program} {fn : Func} {p q : Tmp} {ty t2 : TypeId} (h : fn.results = #[.cell p ty, .cell q t2]) (tmps : Array Value) {w : World} {g : Nat} {t : TypeId} {cs : Array Value} {d : TypeDesc}
    (hp : tmps.getD p undef = .pointer (some ⟨g, 0, none⟩)) (hg : Blk w g t cs) (hu : P.underlying ty = some d) (hd : (match d with | .struct _ | .array _ _ => true | _ => false) = true) (hi : (P.info? ty).map (·.size) = some cs.size)
    {b2 : Nat} {u2 : TypeId} {v2 : Value} {d2 : TypeDesc} (hp2 : tmps.getD q undef = .pointer (some ⟨b2, 0, none⟩)) (h2 : Blk w b2 u2 #[v2]) (hu2 : P.underlying t2 = some d2) (hd2 : (match d2 with | .struct _ | .array _ _ => true | _ => false) = false) :
    (results fn tmps).run P w = .ok (.tuple #[.agg cs, v2]) w := by
  have e1 := run_loadVar_row (P := P) w g t ty cs (0, 0) d hg hu hd hi
  have e2 := run_loadOne hu2 hd2 h2
  have p1 : tmps[p]?.getD undef = .pointer (some ⟨g, 0, none⟩) := by simpa using hp
  have p2 : tmps[q]?.getD undef = .pointer (some ⟨b2, 0, none⟩) := by simpa using hp2
  simp only [results, h]
  simp [Sem.run_bind, Result.andThen, p1, p2, asAddr, e1, e2]

def opA : Option O → Array Value
  | some x => x.cells.toArray
  | none => (zeroO 0).cells.toArray
theorem infoWords : (Tryd.prog.info? 62).map (·.size) = some kindArr.size := by kernel_rfl
theorem lt13 {k : Nat} (h : k < 13) : k = 0 ∨ k = 1 ∨ k = 2 ∨ k = 3 ∨ k = 4 ∨ k = 5 ∨ k = 6 ∨ k = 7 ∨ k = 8 ∨ k = 9 ∨ k = 10 ∨ k = 11 ∨ k = 12 := by omega
theorem index_words {k : Nat} (hk : k < 13) (w : World) : (Instr.index 62 (.agg kindArr) (.int .i64 k)).run Tryd.prog w = .ok (.string ⟨(kindW k).toArray⟩) w := by
  rcases lt13 hk with rfl | rfl | rfl | rfl | rfl | rfl | rfl | rfl | rfl | rfl | rfl | rfl | rfl <;> kernel_rfl
theorem infoOp : (Tryd.prog.info? 24).map (·.size) = some 7 := by kernel_rfl

theorem split_own {w : World} (hM : MaxL w) (s : ByteArray) (hs : s.size < 4294967281) :
    Calls Tryd.prog 32 #[.string s, .string ⟨#[32]⟩] w fun e w' => ∃ gl, e = .returned (.slice (some ⟨gl, 0, none⟩) (pieces s.data.toList).length (pieces s.data.toList).length) ∧ Blk w' gl 9 ((pieces s.data.toList).map strV).toArray ∧ w.heap.size ≤ gl ∧ Below w.heap.size w w' :=
  (split_any hM s hs).mono fun e w' ⟨he, hw⟩ => ⟨_, he, hw ▸ Blk.new _ _ _, Nat.le_refl _, hw ▸ (Below.refl _ _).alloc (Nat.le_refl _) _⟩

/-- The results' cells, the line's words, and what they would say so far. -/
structure RI (w : World) (G gl : Nat) (ws : List (List UInt8)) (y : O) (W : World) : Prop where
  r : Blk W w.heap.size 24 (zeroO 0).cells.toArray
  e : Blk W (w.heap.size + 1) 25 #[.int .i64 0]
  l : Blk W G 52 #[.slice (some ⟨gl, 0, none⟩) ws.length ws.length]
  s : Blk W gl 9 (ws.map strV).toArray
  x : Blk W (G + 1) 24 y.cells.toArray
  b : Below w.heap.size w W
  h1 : w.heap.size + 1 < gl
  h2 : gl < G
section
variable {w W W' : World} {G gl : Nat} {ws : List (List UInt8)} {y : O}
theorem RI.below (h : RI w G gl ws y W) (hb : Below W.heap.size W W') : RI w G gl ws y W' :=
  ⟨h.r.below hb h.r.lt, h.e.below hb h.e.lt, h.l.below hb h.l.lt, h.s.below hb h.s.lt, h.x.below hb h.x.lt, h.b.trans (hb.mono h.b.size), h.h1, h.h2⟩
theorem RI.walks {row : Option Nat} {B : Nat} (h : RI w G gl ws y W) (hB : w.heap.size ≤ B) (hg : W.grownBy W' row) (hr : ∀ r, row = some r → B ≤ r ∧ ∃ o : Obj, W.heap[r]? = some o ∧ o.isCells = false) : RI w G gl ws y W' :=
  ⟨blk_own _ _ (fun _ : Unit => _) () _ _ _ h.r hg (fun r e => (hr r e).2), blk_own _ _ (fun _ : Unit => _) () _ _ _ h.e hg (fun r e => (hr r e).2), blk_own _ _ (fun _ : Unit => _) () _ _ _ h.l hg (fun r e => (hr r e).2), blk_own _ _ (fun _ : Unit => _) () _ _ _ h.s hg (fun r e => (hr r e).2), blk_own _ _ (fun _ : Unit => _) () _ _ _ h.x hg (fun r e => (hr r e).2), h.b.grown hg h.b.size (fun k e => Nat.le_trans hB (hr k e).1), h.h1, h.h2⟩
theorem RI.setX (h : RI w G gl ws y W) {y' : O} {i : Nat} {u : Value} (hy : Blk (W.setCell ⟨G + 1, i, none⟩ u) (G + 1) 24 y'.cells.toArray) : RI w G gl ws y' (W.setCell ⟨G + 1, i, none⟩ u) := by
  have a := h.h1
  have b := h.h2
  exact ⟨h.r.far (by simp; omega) _, h.e.far (by simp; omega) _, h.l.far (by simp) _, h.s.far (by simp; omega) _, hy, h.b.setCell (by simp; omega) _, h.h1, h.h2⟩
theorem RI.setK (h : RI w G gl ws y W) (k : Int) : RI w G gl ws { y with k := k } (W.setCell ⟨G + 1, 0, none⟩ (.int .i64 k)) :=
  h.setX (by have := h.x.set_ 0 (.int .i64 k); simpa [O.cells] using this)
theorem RI.setW (h : RI w G gl ws y W) (nm : ByteArray) : RI w G gl ws { y with w := nm } (W.setCell ⟨G + 1, 6, none⟩ (.string nm)) :=
  h.setX (by have := h.x.set_ 6 (.string nm); simpa [O.cells] using this)
theorem RI.far (h : RI w G gl ws y W) {p : Addr} (hp : G + 1 < p.block) (u : Value) : RI w G gl ws y (W.setCell p u) := by
  have a := h.h1
  have b := h.h2
  exact ⟨h.r.far (by omega) _, h.e.far (by omega) _, h.l.far (by omega) _, h.s.far (by omega) _, h.x.far (by omega) _, h.b.setCell (by omega) _, h.h1, h.h2⟩
theorem RI.word (h : RI w G gl ws y W) {j : Nat} (hj : j < ws.length) : W.cell? ⟨gl, j, none⟩ = some (.string ⟨(ws.getD j []).toArray⟩) := by
  rw [h.s.cell, List.getElem?_toArray, List.getElem?_map, List.getElem?_eq_getElem hj, List.getD_eq_getElem?_getD, List.getElem?_eq_getElem hj]
  rfl
end

theorem set7_blk {W : World} {b : Nat} {t : TypeId} {v0 v1 v2 v3 v4 v5 v6 : Value} (h : Blk W b t #[v0, v1, v2, v3, v4, v5, v6]) (u0 u1 u2 u3 u4 u5 u6 : Value) : Blk (((((((W.setCell ⟨b, 0, none⟩ u0).setCell ⟨b, 1, none⟩ u1).setCell ⟨b, 2, none⟩ u2).setCell ⟨b, 3, none⟩ u3).setCell ⟨b, 4, none⟩ u4).setCell ⟨b, 5, none⟩ u5).setCell ⟨b, 6, none⟩ u6) b t #[u0, u1, u2, u3, u4, u5, u6] := by
  have := ((((((h.set_ 0 u0).set_ 1 u1).set_ 2 u2).set_ 3 u3).set_ 4 u4).set_ 5 u5).set_ 6 u6
  simpa using this
theorem set7_below {B b : Nat} {w W : World} (h : Below B w W) (hb : B ≤ b) (u0 u1 u2 u3 u4 u5 u6 : Value) : Below B w (((((((W.setCell ⟨b, 0, none⟩ u0).setCell ⟨b, 1, none⟩ u1).setCell ⟨b, 2, none⟩ u2).setCell ⟨b, 3, none⟩ u3).setCell ⟨b, 4, none⟩ u4).setCell ⟨b, 5, none⟩ u5).setCell ⟨b, 6, none⟩ u6) :=
  ((((((h.setCell (p := ⟨b, 0, none⟩) hb u0).setCell (p := ⟨b, 1, none⟩) hb u1).setCell (p := ⟨b, 2, none⟩) hb u2).setCell (p := ⟨b, 3, none⟩) hb u3).setCell (p := ⟨b, 4, none⟩) hb u4).setCell (p := ⟨b, 5, none⟩) hb u5).setCell (p := ⟨b, 6, none⟩) hb u6
theorem set7_far {W : World} {b g : Nat} {t : TypeId} {cs : Array Value} (h : Blk W g t cs) (hg : g ≠ b) (u0 u1 u2 u3 u4 u5 u6 : Value) : Blk (((((((W.setCell ⟨b, 0, none⟩ u0).setCell ⟨b, 1, none⟩ u1).setCell ⟨b, 2, none⟩ u2).setCell ⟨b, 3, none⟩ u3).setCell ⟨b, 4, none⟩ u4).setCell ⟨b, 5, none⟩ u5).setCell ⟨b, 6, none⟩ u6) g t cs :=
  ((((((h.far (p := ⟨b, 0, none⟩) hg u0).far (p := ⟨b, 1, none⟩) hg u1).far (p := ⟨b, 2, none⟩) hg u2).far (p := ⟨b, 3, none⟩) hg u3).far (p := ⟨b, 4, none⟩) hg u4).far (p := ⟨b, 5, none⟩) hg u5).far (p := ⟨b, 6, none⟩) hg u6
theorem set7_keeps (W : World) (b : Nat) (u0 u1 u2 u3 u4 u5 u6 : Value) : KeepsOthers W (((((((W.setCell ⟨b, 0, none⟩ u0).setCell ⟨b, 1, none⟩ u1).setCell ⟨b, 2, none⟩ u2).setCell ⟨b, 3, none⟩ u3).setCell ⟨b, 4, none⟩ u4).setCell ⟨b, 5, none⟩ u5).setCell ⟨b, 6, none⟩ u6) :=
  ((((((KeepsOthers.setCell W _ _).trans (KeepsOthers.setCell _ _ _)).trans (KeepsOthers.setCell _ _ _)).trans (KeepsOthers.setCell _ _ _)).trans (KeepsOthers.setCell _ _ _)).trans (KeepsOthers.setCell _ _ _)).trans (KeepsOthers.setCell _ _ _)
/-- The results' cells, as they are left where a line is none. -/
structure RX (w W : World) : Prop where
  r : Blk W w.heap.size 24 (zeroO 0).cells.toArray
  e : Blk W (w.heap.size + 1) 25 #[.int .i64 200]
  b : Below w.heap.size w W
theorem RX.walks {w W W' : World} {row : Option Nat} {B : Nat} (h : RX w W) (hB : w.heap.size ≤ B) (hg : W.grownBy W' row) (hr : ∀ r, row = some r → B ≤ r ∧ ∃ o : Obj, W.heap[r]? = some o ∧ o.isCells = false) : RX w W' :=
  ⟨blk_own _ _ (fun _ : Unit => _) () _ _ _ h.r hg (fun r e => (hr r e).2), blk_own _ _ (fun _ : Unit => _) () _ _ _ h.e hg (fun r e => (hr r e).2), h.b.grown hg h.b.size (fun k e => Nat.le_trans hB (hr k e).1)⟩
set_option maxHeartbeats 2000000 in
theorem RI.toX {w W : World} {G gl : Nat} {ws : List (List UInt8)} {y : O} (h : RI w G gl ws y W) : RX w ((((((((W.setCell ⟨w.heap.size, 0, none⟩ (.int .i64 0)).setCell ⟨w.heap.size, 1, none⟩ (.int .i64 0)).setCell ⟨w.heap.size, 2, none⟩ (.int .i64 0)).setCell ⟨w.heap.size, 3, none⟩ (.int .i64 0)).setCell ⟨w.heap.size, 4, none⟩ (.int .i64 0)).setCell ⟨w.heap.size, 5, none⟩ (.int .u32 0)).setCell ⟨w.heap.size, 6, none⟩ (.string ⟨#[]⟩)).setCell ⟨w.heap.size + 1, 0, none⟩ (.int .i64 200)) :=
  ⟨(set7_blk h.r (.int .i64 0) (.int .i64 0) (.int .i64 0) (.int .i64 0) (.int .i64 0) (.int .u32 0) (.string ⟨#[]⟩)).far (p := ⟨w.heap.size + 1, 0, none⟩) (by simp) (.int .i64 200), by have := (set7_far (b := w.heap.size) h.e (by omega) (.int .i64 0) (.int .i64 0) (.int .i64 0) (.int .i64 0) (.int .i64 0) (.int .u32 0) (.string ⟨#[]⟩)).set_ 0 (.int .i64 200); simpa using this,
    (set7_below h.b (Nat.le_refl _) _ _ _ _ _ _ _).setCell (p := ⟨w.heap.size + 1, 0, none⟩) (by simp) _⟩
theorem box1 {W : World} {b : Nat} {t : TypeId} {v : Value} (h : Blk W b t #[v]) (u : Value) : Blk (W.setCell ⟨b, 0, none⟩ u) b t #[u] := by
  have := h.set_ 0 u
  simpa using this
theorem cand_none {l : List (List UInt8)} : ∀ (ps : List Nat), ps.foldl (stepC l) none = none
  | [] => rfl
  | p :: ps => cand_none ps
theorem cand_prefix {l : List (List UInt8)} {k : Int} {pre ps : List Nat} (hp : pre <+: ps) (h : candS l k pre = none) : candS l k ps = none := by
  obtain ⟨r, rfl⟩ := hp
  unfold candS at *
  rw [List.foldl_append, h]
  exact cand_none r

set_option maxRecDepth 100000 in
set_option maxHeartbeats 8000000 in
theorem read_in (n : Nat) (hn : 8 ≤ n) {w : World} (hG : Ground w) (s : ByteArray) (hs : s.size ≤ 1000000) :
    CallsIn Fence.wide n Tryd.prog 12 #[.string s] w fun e w' => e = .returned (.tuple #[.agg (opA (readO s.data.toList)), .int .i64 (errO (readO s.data.toList))]) ∧ Below w.heap.size w w' := by
  have h1 : 1 ≤ n := by omega
  have HG := Lib.hid hG
  have HS := Lib.hid (fun W (hW : Below w.heap.size w W) => show CallsIn Fence.wide (n - 1) Tryd.prog _ _ _ _ from callsIn_wide.2 (split_own (hG.below hW).max s (by omega)))
  clear hG
  obtain ⟨ws, hws⟩ : ∃ ws, ws = pieces s.data.toList := ⟨_, rfl⟩
  rw [← hws] at HS
  have hlen : ws.length ≤ 1000001 := by
    rw [hws, pieces_len]
    have := List.count_le_length (a := (32 : UInt8)) (l := s.data.toList)
    have e : s.data.toList.length = s.size := by rw [Array.length_toList]; rfl
    omega
  have hlen1 : 0 < ws.length := by rw [hws, pieces_len]; omega
  have HWS := Lib.hid hws
  clear hws
  obtain ⟨post, hpost⟩ : ∃ post : Ending → World → Prop, post = fun e w' => e = .returned (.tuple #[.agg (opA (readO s.data.toList)), .int .i64 (errO (readO s.data.toList))]) ∧ Below w.heap.size w w' := ⟨_, rfl⟩
  rw [← hpost]
  have HPOST := Lib.hid hpost
  clear hpost
  have hb0 := bl_2 w (.cells (zeroO 0).cells.toArray 24) (.cells #[.int .i64 0] 25)
  have hr0 := (Blk.new w 24 (zeroO 0).cells.toArray).alloc (.cells #[.int .i64 0] 25)
  have he0 := Blk.new (w.alloc (.cells (zeroO 0).cells.toArray 24)) 25 #[.int .i64 0]
  simp only [World.size_alloc] at he0
  refine callsIn_of_wp_marks Tryd.func12 rfl trivial ?_ rfl
  simp only [Tryd.ntmps12, List.size_toArray, List.length_cons, List.length_nil, Nat.reduceAdd, Nat.reduceSub, Array.replicate_succ, Array.replicate_zero, List.push_toArray, List.append_toArray, List.nil_append, List.cons_append]
  gi_wp2_with fail
  refine ⟨trivial, (HS.out _ hb0).mono ?_⟩
  rintro e W2 ⟨gl, rfl, hl2, hgl, hb2⟩
  have hr2 := hr0.below hb2 hr0.lt
  have he2 := he0.below hb2 he0.lt
  have hB2 := hb0.trans (hb2.mono hb0.size)
  have hgl2 := hl2.lt
  have hs2 := hb2.size
  simp only [World.size_alloc] at hgl hs2
  clear hb0 hr0 he0 hb2
  have hRI0 : RI w W2.heap.size gl ws (zeroO 0) ((W2.alloc (.cells #[.slice (some ⟨gl, 0, none⟩) ws.length ws.length] 52)).alloc (.cells (zeroO 0).cells.toArray 24)) :=
    ⟨(hr2.alloc _).alloc _, (he2.alloc _).alloc _, (Blk.new _ _ _).alloc _, (hl2.alloc _).alloc _, by have h := Blk.new (W2.alloc (.cells #[.slice (some ⟨gl, 0, none⟩) ws.length ws.length] 52)) 24 (zeroO 0).cells.toArray; simpa using h, bl_new (bl_new hB2 _) _, by omega, hgl2⟩
  clear hr2 he2 hB2 hl2 hgl hgl2
  obtain ⟨tw, hw4⟩ := (HG.out.below hRI0.b).words
  have HW4 := Lib.hid hw4
  clear hw4
  gi_wp2_with (refine wpListIn_load_row rfl 62 _ rfl 0 rfl tw kindArr (0, 0) _ HW4.out Tryd.underlying62 rfl infoWords ?_)
  clear HW4 HS
  obtain ⟨q0, hq0⟩ : ∃ q0, q0 = ws.getD 0 [] := ⟨_, rfl⟩
  obtain ⟨s0, hs0⟩ : ∃ s0 : ByteArray, s0 = ⟨q0.toArray⟩ := ⟨_, rfl⟩
  have HC0 := Lib.hid (fun W y (h : RI w W2.heap.size gl ws y W) => show W.cell? ⟨gl, 0, none⟩ = some (.string s0) from by rw [hs0, hq0]; exact h.word (j := 0) hlen1)
  have HQ0 := Lib.hid hq0
  have HS0 := Lib.hid hs0
  clear hq0 hs0
  have hRI1 : RI w W2.heap.size gl ws (zeroO (kAtO q0 0 : Nat)) ((W2.alloc (.cells #[.slice (some ⟨gl, 0, none⟩) ws.length ws.length] 52)).alloc (.cells #[.int .i64 0, .int .i64 0, .int .i64 0, .int .i64 0, .int .i64 0, .int .u32 0, .string ⟨#[]⟩] 24)) := hRI0
  clear hRI0
  generalize (W2.alloc (.cells #[.slice (some ⟨gl, 0, none⟩) ws.length ws.length] 52)).alloc (.cells #[.int .i64 0, .int .i64 0, .int .i64 0, .int .i64 0, .int .i64 0, .int .u32 0, .string ⟨#[]⟩] 24) = W3 at *
  have hwG : w.heap.size + 1 < W2.heap.size := by have := hRI1.h1; have := hRI1.h2; omega
  clear hs2
  generalize W2.heap.size = G at *
  have HIX := Lib.hid (fun (n : Nat) (hn : n < 13) (w : World) => index_words hn w)
  gi_loopw [18] (fun i wr => ∃ j : Nat, i = .int .i64 (j : Int) ∧ j ≤ 13 ∧ RI w G gl ws (zeroO (kAtO q0 j : Nat)) wr) (fun i _ => 13 - (intOf i).toNat)
  case atStart => exact ⟨0, rfl, by omega, hRI1⟩
  case round =>
    obtain ⟨j, rfl, hj, hR⟩ := hrel
    clear hRI1
    by_cases hj13 : j < 13
    · have hjb : (j : Int) < 13 := by omega
      have hix := fun w => HIX.out j hj13 w
      have hc0 := HC0.out _ _ hR
      have hcl := hR.l.cell 0
      have hl0 : (0 : Int) < (ws.length : Int) := by omega
      simp only [List.getElem?_toArray, List.getElem?_cons_zero] at hcl
      by_cases hj0 : 0 < j
      · have hjp : (0 : Int) < (j : Int) := by omega
        by_cases hk : kindW j = q0
        · have hb : ((⟨(kindW j).toArray⟩ : ByteArray).toList == s0.toList) = true := seq_true (by rw [HS0.out, hk])
          have hcx := ocells hR.x
          have hfx := hR.x.frozen 0
          have HN := Lib.hid (show kAtO q0 (j + 1) = j from by rw [kAtO, if_pos ⟨hj0, hk⟩])
          have HRN := Lib.hid (hR.setK j)
          have hxl := hR.x.lt
          generalize (⟨(kindW j).toArray⟩ : ByteArray) = sk at *
          clear hR hk
          gi_wp2
          go_roundw
          case rel => exact ⟨j + 1, by go_num, by omega, by rw [HN.out]; exact HRN.out⟩
          case measure => simp [intOf]; omega
        · have hb : ((⟨(kindW j).toArray⟩ : ByteArray).toList == s0.toList) = false := seq_false (by rw [HS0.out]; intro h; injection h with h; exact hk (by simpa using congrArg Array.toList h))
          have HN := Lib.hid (show kAtO q0 (j + 1) = kAtO q0 j from by rw [kAtO, if_neg (fun h => hk h.2)])
          have HRN := Lib.hid hR
          generalize (⟨(kindW j).toArray⟩ : ByteArray) = sk at *
          clear hR hk
          gi_wp2
          go_roundw
          case rel => exact ⟨j + 1, by go_num, by omega, by rw [HN.out]; exact HRN.out⟩
          case measure => simp [intOf]; omega
      · have hjp : ¬ (0 : Int) < (j : Int) := by omega
        have HN := Lib.hid (show kAtO q0 (j + 1) = kAtO q0 j from by rw [kAtO, if_neg (fun h => hj0 h.1)])
        have HRN := Lib.hid hR
        generalize (⟨(kindW j).toArray⟩ : ByteArray) = sk at *
        clear hR
        gi_wp2
        go_roundw
        case rel => exact ⟨j + 1, by go_num, by omega, by rw [HN.out]; exact HRN.out⟩
        case measure => simp [intOf]; omega
    · have hj' : j = 13 := by omega
      subst hj'
      have hkk : kindOf s.data.toList = kAtO q0 13 := by unfold kindOf; rw [← HWS.out, HQ0.out]
      have hcx := (hR.x.cell 0)
      simp only [zeroO, O.cells, List.getElem?_toArray, List.getElem?_cons_zero] at hcx
      obtain ⟨k, hk⟩ : ∃ k : Nat, k = kAtO q0 13 := ⟨_, rfl⟩
      rw [← hk] at hR hkk hcx
      have HKK := Lib.hid hkk
      have HR := Lib.hid hR
      have hrl := hR.x.lt
      clear hkk hk hR
      gi_wp2_with (refine ⟨trivial, ?_⟩; gi_at_call 26; refine (parts_in (n - 1) _ _).mono ?_; rintro e w' ⟨rfl, rfl⟩)
      have hN0 := (Blk.new wr 3 #[.int .i64 1]).alloc (.cells #[.int .i64 (k : Int)] 3)
      have hK0 := Blk.new (wr.alloc (.cells #[.int .i64 1] 3)) 3 #[.int .i64 (k : Int)]
      simp only [World.size_alloc] at hK0
      have hR4 := HR.out.below (bl_2 wr (.cells #[.int .i64 1] 3) (.cells #[.int .i64 (k : Int)] 3))
      have hs4 : ((wr.alloc (.cells #[.int .i64 1] 3)).alloc (.cells #[.int .i64 (k : Int)] 3)).heap.size = wr.heap.size + 2 := by simp
      generalize (wr.alloc (.cells #[.int .i64 1] 3)).alloc (.cells #[.int .i64 (k : Int)] 3) = W4 at *
      have hNle : G + 1 < wr.heap.size := hrl
      clear hrl HR hcx
      generalize wr.heap.size = N0 at *
      refine wpIn_rangeFunc_ownH rfl h1 (gf := 49) (lb := #[.pointer (some ⟨N0 + 1, 0, none⟩)]) rfl trivial (enters_of Tryd.func49 (by kernel_rfl) rfl)
        (parts1_stops (n - 1) (by omega) (N0 + 1) k W4 hK0 (fun _ _ => True)) (fun _ _ => trivial) (fun _ _ _ _ _ _ _ _ => trivial) (Below.refl _ _) (fun _ => rfl)
        (fun (pre : List Nat) W => ∃ y, candS ws k pre = some (y, pre.length + 1) ∧ RI w G gl ws y W ∧ Blk W N0 3 #[.int .i64 ((pre.length + 1 : Nat) : Int)])
        (fun c pre W => c = .ret ∧ candS ws k pre = none ∧ RX w W)
        (fun pre A B row hs hg hr => hs.elim fun y h => ⟨y, h.1, h.2.1.walks (by omega) hg hr, blk_own _ _ (fun _ : Unit => _) () _ _ _ h.2.2 hg (fun r e => (hr r e).2)⟩)
        (fun c pre A B row hs hg hr => ⟨hs.1, hs.2.1, hs.2.2.walks (by omega) hg hr⟩)
        ⟨zeroO k, rfl, hR4, hN0⟩
        (fun b a' W => a' = { tmps := #[.string s, undef, .pointer (some ⟨w.heap.size, 0, none⟩), .pointer (some ⟨w.heap.size + 1, 0, none⟩), .pointer (some ⟨G, 0, none⟩), .pointer (some ⟨G + 1, 0, none⟩), u6, u7, .pointer (some ⟨N0, 0, none⟩), .int .u8 (b : Int), undef, undef, undef, undef, .string s, .slice (some ⟨gl, 0, none⟩) ws.length ws.length, .agg #[.int .i64 0, .int .i64 0, .int .i64 0, .int .i64 0, .int .i64 0, .int .u32 0, .string ⟨#[]⟩], .agg kindArr, .int .i64 13, .bool false, u20, u21, u22, u23, u24, u25, u26, u27, u28, u29, u30, u31, u32, u33, .pointer (some ⟨G + 1, 0, none⟩), .int .i64 (k : Int), .func (.func 49) #[] #[.pointer (some ⟨N0 + 1, 0, none⟩)], .int .u8 (b : Int), undef, undef, undef, undef, undef, undef, undef, undef, undef, undef, undef, undef, undef, undef, undef, undef, undef, undef, undef, undef, undef, undef, undef, undef, undef, undef, undef, undef, undef, undef, undef, undef, undef, undef, undef, undef, undef, undef, undef, undef, undef], defers := [] })
        (fun b a' _ A B row hs hg hr => hs)
        ?assign ?body ?done ?stop
      case assign =>
        rintro l pre b W K' hI hK'
        simp only [encP] at hK' ⊢
        gi_wp2
        exact hK' _ _ (KeepsFrom.refl _ _) trivial hI rfl
      case body =>
        rintro l pre b a' W hl ⟨r, hr⟩ ⟨y, hcand, hI, hNb⟩ rfl hlt
        dsimp only
        obtain ⟨i, hi⟩ : ∃ i, i = pre.length + 1 := ⟨_, rfl⟩
        rw [← hi] at hcand hNb
        have hil : i ≤ 1000000 := by omega
        have HII := Lib.hid hi
        have HCA := Lib.hid hcand
        have hcl := hI.l.cell 0
        have hcn := hNb.cell 0
        simp only [List.getElem?_toArray, List.getElem?_cons_zero] at hcl hcn
        have hsz1 := hI.b.size
        have hsx := hI.x.lt
        have hsn := hNb.lt
        have hgl1 := hI.h1
        have hgl2 := hI.h2
        have HI := Lib.hid hI
        have HNB := Lib.hid hNb
        clear hi hcand hI hNb hR4 hN0 hK0
        by_cases hil2 : i < ws.length
        · have hib : (i : Int) < (ws.length : Int) := by omega
          have hw := HI.out.word hil2
          have hwi : ws[i]? = some (ws.getD i []) := by rw [List.getD_eq_getElem?_getD, List.getElem?_eq_getElem hil2]; rfl
          have hul : (ws.getD i []).length ≤ 1000000 := by
            have h := word_len s.data.toList i
            rw [← HWS.out] at h
            have e : s.data.toList.length = s.size := by rw [Array.length_toList]; rfl
            omega
          obtain ⟨u, hu⟩ : ∃ u, u = ws.getD i [] := ⟨_, rfl⟩
          rw [← hu] at hw hwi hul
          obtain ⟨su, hsu⟩ : ∃ su : ByteArray, su = ⟨u.toArray⟩ := ⟨_, rfl⟩
          rw [← hsu] at hw
          have hsul : su.size ≤ 1000000 := by rw [hsu]; show u.toArray.size ≤ _; simpa using hul
          obtain ⟨v, hv⟩ : ∃ v, v = atoiV u := ⟨_, rfl⟩
          have hvr : -9223372036854775808 ≤ v ∧ v ≤ 9223372036854775807 := by rw [hv]; exact atoiV_range u
          have HAT := Lib.hid (fun V (hV : Below w.heap.size w V) => show CallsIn (Fence.wide.inRound l) (n - 1 - 1 - 1) Tryd.prog 33 #[.string su] V fun e w' => ∃ er, e = .returned (.tuple #[.int .i64 v, er]) ∧ Below V.heap.size V w' from
            callsIn_wide.2 ((atoi_any (HG.out.below hV).errs su (by omega)).mono fun e w' ⟨er, h1, _, h2⟩ => ⟨er, by rw [h1, hv, hsu], h2⟩))
          have HSU := Lib.hid hsu
          have HV := Lib.hid hv
          have HWI := Lib.hid hwi
          clear hu hsu hv hwi hul
          gi_wp2_with fail
          refine ⟨trivial, fun _ => by omega, (HAT.out _ HI.out.b).mono ?_⟩
          rintro e W5 ⟨er, rfl, hb5⟩
          have hI5 := HI.out.below hb5
          have hN5 := HNB.out.below hb5 HNB.out.lt
          have hKO5 := KeepsOthers.of_grownBy (grownBy_below hb5) (fun j o e => by cases e)
          have hcl := hI5.l.cell 0
          have hcn := hN5.cell 0
          have hfn := hN5.frozen 0
          have hw := hI5.word hil2
          have hww : W5.cell? ⟨gl, i, none⟩ = some (.string su) := by
            rw [hw, HSU.out]
            have h := HWI.out
            rw [List.getElem?_eq_getElem hil2] at h
            injection h with h
            rw [List.getD_eq_getElem?_getD, List.getElem?_eq_getElem hil2, Option.getD_some, h]
          simp only [List.getElem?_toArray, List.getElem?_cons_zero] at hcl hcn
          have hsx := hI5.x.lt
          have hsn := hN5.lt
          have HI5 := Lib.hid hI5
          have HN5 := Lib.hid hN5
          have HKO5 := Lib.hid hKO5
          clear hw hI5 hN5 hKO5 hb5
          by_cases hb : b = 119
          · subst hb
            have hfx := HI5.out.x.frozen 6
            have hI6 := HI5.out.setW su
            have hN6 := HN5.out.far (p := ⟨G + 1, 6, none⟩) (by simp; omega) (.string su)
            have hcn6 := hN6.cell 0
            have hfn6 := hN6.frozen 0
            have hsn6 := hN6.lt
            simp only [List.getElem?_toArray, List.getElem?_cons_zero] at hcn6
            have hKO6 := HKO5.out.trans (KeepsOthers.setCell W5 ⟨G + 1, 6, none⟩ (.string su))
            have HI6 := Lib.hid hI6
            have HN6 := Lib.hid hN6
            have HKO6 := Lib.hid hKO6
            clear hI6 hN6 hKO6
            have hcx6 := HI5.out.x.cell 6
            simp only [O.cells, List.getElem?_toArray, List.getElem?_cons_zero, List.getElem?_cons_succ] at hcx6
            gi_wp2_with fail
            refine ⟨(HKO6.out.trans (KeepsOthers.setCell _ _ _)).from _, trivial, { y with w := su }, ?_, HI6.out.far (by simp; omega) _, ?_⟩
            · rw [candS_snoc, HCA.out]
              have e : (pre ++ [119]).length + 1 = i + 1 := by rw [HII.out]; simp
              rw [e]
              simp only [stepC, HWI.out, if_true, ← HSU.out]
            · have e : (((pre ++ [119]).length + 1 : Nat) : Int) = (i : Int) + 1 := by rw [HII.out]; simp
              rw [e]
              exact box1 HN6.out (.int .i64 ((i : Int) + 1))
          · have hbi : ¬ (b : Int) = 119 := by omega
            obtain ⟨g, hg⟩ : ∃ g, g = fineP b v := ⟨_, rfl⟩
            have HPT := Lib.hid (fun V (hV : RI w G gl ws y V) (hNV : Blk V N0 3 #[.int .i64 (i : Int)]) => show CallsIn (Fence.wide.inRound l) (n - 1 - 1 - 1) Tryd.prog 34 #[.pointer (some ⟨G + 1, 0, none⟩), .int .u8 (b : Int), .int .i64 v] V fun e w' => e = .returned (.bool g) ∧ RI w G gl ws (putO y b v) w' ∧ Blk w' N0 3 #[.int .i64 (i : Int)] ∧ KeepsOthers V w' from by
              rw [hg]
              refine (callsIn_wide.2 (put_any (G + 1) y hV.x b v hvr)).mono ?_
              rintro e w' ⟨h1, h2, i, u, rfl⟩
              exact ⟨h1, hV.setX h2, hNV.far (by simp; omega) _, KeepsOthers.setCell _ _ _⟩)
            have HG5 := Lib.hid hg
            clear hg
            gi_wp2_with fail
            refine ⟨trivial, fun _ => by omega, (HPT.out _ HI5.out HN5.out).mono ?_⟩
            rintro e W6 ⟨rfl, hI6, hN6, hKO6⟩
            cases g with
            | false =>
              have hcr := ocells hI6.r
              have hfr := fun j => hI6.r.frozen j
              have hce := hI6.e.cell 0
              have hfe := hI6.e.frozen 0
              have hs6 := hI6.b.size
              have hs7 := hI6.x.lt
              simp only [zeroO] at hcr
              simp only [List.getElem?_toArray, List.getElem?_cons_zero] at hce
              have HI6 := Lib.hid hI6
              have HKO6 := Lib.hid (HKO5.out.trans hKO6)
              clear hI6 hN6 hKO6
              gi_wp2_with fail
              refine ⟨(HKO6.out.trans ((set7_keeps _ _ _ _ _ _ _ _ _).trans (KeepsOthers.setCell _ _ _))).from _, rfl, ?_, HI6.out.toX⟩
              rw [candS_snoc, HCA.out]
              simp only [stepC, HWI.out, if_neg hb, ← HV.out, ← HG5.out]
              rfl
            | true =>
              have hcn6 := hN6.cell 0
              have hfn6 := hN6.frozen 0
              have hsn6 := hN6.lt
              simp only [List.getElem?_toArray, List.getElem?_cons_zero] at hcn6
              have HI6 := Lib.hid hI6
              have HN6 := Lib.hid hN6
              have HKO6 := Lib.hid (HKO5.out.trans hKO6)
              clear hI6 hN6 hKO6 hcn hfn
              gi_wp2_with fail
              refine ⟨(HKO6.out.trans (KeepsOthers.setCell _ _ _)).from _, trivial, putO y b v, ?_, HI6.out.far (by simp; omega) _, ?_⟩
              · rw [candS_snoc, HCA.out]
                have e : (pre ++ [b]).length + 1 = i + 1 := by rw [HII.out]; simp
                rw [e]
                simp only [stepC, HWI.out, if_neg hb, ← HV.out, ← HG5.out, if_true]
              · have e : (((pre ++ [b]).length + 1 : Nat) : Int) = (i : Int) + 1 := by rw [HII.out]; simp
                rw [e]
                exact box1 HN6.out (.int .i64 ((i : Int) + 1))
        · have hib : ¬ (i : Int) < (ws.length : Int) := by omega
          have hcr := ocells HI.out.r
          have hfr := fun j => HI.out.r.frozen j
          have hce := HI.out.e.cell 0
          have hfe := HI.out.e.frozen 0
          simp only [zeroO] at hcr
          simp only [List.getElem?_toArray, List.getElem?_cons_zero] at hce
          gi_wp2_with fail
          refine ⟨((set7_keeps _ _ _ _ _ _ _ _ _).trans (KeepsOthers.setCell _ _ _)).from _, rfl, ?_, HI.out.toX⟩
          rw [candS_snoc, HCA.out]
          simp only [stepC, List.getElem?_eq_none (show ws.length ≤ i by omega)]
      case done =>
        rintro D ys W hD rfl ⟨y, hcand, hI, hNb⟩ hK
        have hyr : RangeO y := cand_range (k := (k : Int)) _ parts_kind _ (fun y n e => by injection e with e; injection e with e1 e2; rw [← e1]; exact zero_range _) y _ hcand
        have hrd : readO s.data.toList = if MayO y ∧ lineO y = s.data.toList then some y else none := by
          unfold readO
          rw [HKK.out, ← HWS.out, hcand]
        obtain ⟨yk, yco, yn, yp, ys, ym, yw⟩ := y
        have hcx := ocells hI.x
        simp only at hcx
        have HI := Lib.hid hI
        have HK := Lib.hid hK
        have HRD := Lib.hid hrd
        have HYR := Lib.hid hyr
        have hDl : D < W.heap.size := (Array.getElem?_eq_some_iff.1 hK).1
        have hsz := hI.b.size
        have hh1 := hI.h1
        have hh2 := hI.h2
        clear hcand hI hNb hK hrd hyr hR4 hN0 hK0
        dsimp only
        by_cases hm : MayO ⟨yk, yco, yn, yp, ys, ym, yw⟩
        · obtain ⟨sl, hsl⟩ : ∃ sl : ByteArray, sl = ⟨(lineO ⟨yk, yco, yn, yp, ys, ym, yw⟩).toArray⟩ := ⟨_, rfl⟩
          have HL := Lib.hid (fun V (hV : Below w.heap.size w V) => show CallsIn Fence.wide (n - 1) Tryd.prog 10 #[.agg #[.int .i64 yk, .int .i64 yco, .int .i64 yn, .int .i64 yp, .int .i64 ys, .int .u32 ym, .string yw]] V fun e w' => e = .returned (.tuple #[.string sl, .int .i64 0]) ∧ Below V.heap.size V w' from by rw [hsl]; exact callsIn_wide.2 (line_yes (HG.out.below hV) _ HYR.out hm))
          have HSL := Lib.hid hsl
          have HM := Lib.hid hm
          clear hsl hm
          gi_wp2_with fail
          refine ⟨trivial, (HL.out _ HI.out.b).mono ?_⟩
          rintro e W8 ⟨rfl, hb8⟩
          have hI8 := HI.out.below hb8
          have hK8 : W8.heap[D]? = some (.deferred (some [])) := (hb8.block D hDl).trans HK.out
          have hDl8 : D < W8.heap.size := Nat.lt_of_lt_of_le hDl hb8.size
          have hcr := ocells hI8.r
          have hfr := fun j => hI8.r.frozen j
          have hce := hI8.e.cell 0
          have hfe := hI8.e.frozen 0
          have hs6 := hI8.b.size
          have hs7 := hI8.x.lt
          simp only [zeroO] at hcr
          simp only [List.getElem?_toArray, List.getElem?_cons_zero] at hce
          have hcx8 := ocells hI8.x
          simp only at hcx8
          have HI8 := Lib.hid hI8
          have HK8 := Lib.hid hK8
          clear hI8 hK8 hb8 hcx
          by_cases heq : sl = s
          · have hb := seq_true heq
            have HF := Lib.hid (show readO s.data.toList = some ⟨yk, yco, yn, yp, ys, ym, yw⟩ from by rw [HRD.out, if_pos ⟨HM.out, by rw [← heq, HSL.out]⟩])
            clear heq
            gi_wp2_with fail
            have hr9 := (set7_blk HI8.out.r (.int .i64 yk) (.int .i64 yco) (.int .i64 yn) (.int .i64 yp) (.int .i64 ys) (.int .u32 ym) (.string yw)).far (p := ⟨w.heap.size + 1, 0, none⟩) (by simp) (.int .i64 0)
            have he9 := box1 (set7_far (b := w.heap.size) HI8.out.e (by omega) (.int .i64 yk) (.int .i64 yco) (.int .i64 yn) (.int .i64 yp) (.int .i64 ys) (.int .u32 ym) (.string yw)) (.int .i64 0)
            have hb9 := (set7_below HI8.out.b (Nat.le_refl _) (.int .i64 yk) (.int .i64 yco) (.int .i64 yn) (.int .i64 yp) (.int .i64 ys) (.int .u32 ym) (.string yw)).setCell (p := ⟨w.heap.size + 1, 0, none⟩) (by simp) (.int .i64 0)
            have hK9 := ((set7_keeps W8 w.heap.size (.int .i64 yk) (.int .i64 yco) (.int .i64 yn) (.int .i64 yp) (.int .i64 ys) (.int .u32 ym) (.string yw)).trans (KeepsOthers.setCell _ ⟨w.heap.size + 1, 0, none⟩ (.int .i64 0))).same D _ HK8.out rfl
            generalize ((((((((W8).setCell ⟨w.heap.size, 0, none⟩ (.int .i64 yk)).setCell ⟨w.heap.size, 1, none⟩ (.int .i64 yco)).setCell ⟨w.heap.size, 2, none⟩ (.int .i64 yn)).setCell ⟨w.heap.size, 3, none⟩ (.int .i64 yp)).setCell ⟨w.heap.size, 4, none⟩ (.int .i64 ys)).setCell ⟨w.heap.size, 5, none⟩ (.int .u32 ym)).setCell ⟨w.heap.size, 6, none⟩ (.string yw)).setCell ⟨w.heap.size + 1, 0, none⟩ (.int .i64 0) = W9 at *
            refine ⟨by simp, .inl ⟨_, _, rfl, run_takeDeferred hK9, ?_⟩⟩
            refine ⟨_, results_row_cell Tryd.results12 _ rfl ((World.putObj_heap_other (by omega)).trans hr9) Tryd.underlying24 rfl (by kernel_rfl) rfl ((World.putObj_heap_other (by omega)).trans he9) Tryd.underlying25 rfl, ?_⟩
            rw [HPOST.out, HF.out]
            exact ⟨rfl, hb9.trans (belowK_b (w := w) (Nat.le_refl _) W9 D _ _ (by omega) hK9 rfl rfl)⟩
          · have hb := seq_false heq
            have HF := Lib.hid (show readO s.data.toList = none from by rw [HRD.out, if_neg (fun h => heq (by rw [HSL.out, h.2]))])
            clear heq
            gi_wp2_with fail
            have hX9 := HI8.out.toX
            have hK9 := ((set7_keeps W8 w.heap.size (.int .i64 0) (.int .i64 0) (.int .i64 0) (.int .i64 0) (.int .i64 0) (.int .u32 0) (.string ⟨#[]⟩)).trans (KeepsOthers.setCell _ ⟨w.heap.size + 1, 0, none⟩ (.int .i64 200))).same D _ HK8.out rfl
            generalize ((((((((W8).setCell ⟨w.heap.size, 0, none⟩ (.int .i64 0)).setCell ⟨w.heap.size, 1, none⟩ (.int .i64 0)).setCell ⟨w.heap.size, 2, none⟩ (.int .i64 0)).setCell ⟨w.heap.size, 3, none⟩ (.int .i64 0)).setCell ⟨w.heap.size, 4, none⟩ (.int .i64 0)).setCell ⟨w.heap.size, 5, none⟩ (.int .u32 0)).setCell ⟨w.heap.size, 6, none⟩ (.string ⟨#[]⟩)).setCell ⟨w.heap.size + 1, 0, none⟩ (.int .i64 200) = W9 at *
            refine ⟨by simp, .inl ⟨_, _, rfl, run_takeDeferred hK9, ?_⟩⟩
            refine ⟨_, results_row_cell Tryd.results12 _ rfl ((World.putObj_heap_other (by omega)).trans hX9.r) Tryd.underlying24 rfl (by kernel_rfl) rfl ((World.putObj_heap_other (by omega)).trans hX9.e) Tryd.underlying25 rfl, ?_⟩
            rw [HPOST.out, HF.out]
            exact ⟨rfl, hX9.b.trans (belowK_b (w := w) (Nat.le_refl _) W9 D _ _ (by omega) hK9 rfl rfl)⟩
        · have HL := Lib.hid (fun V (hV : Below w.heap.size w V) => show CallsIn Fence.wide (n - 1) Tryd.prog 10 #[.agg #[.int .i64 yk, .int .i64 yco, .int .i64 yn, .int .i64 yp, .int .i64 ys, .int .u32 ym, .string yw]] V fun e w' => e = .returned (.tuple #[.string ⟨#[]⟩, .int .i64 200]) ∧ Below V.heap.size V w' from callsIn_wide.2 (line_no (HG.out.below hV) _ _ _ _ _ _ _ HYR.out hm))
          have HF := Lib.hid (show readO s.data.toList = none from by rw [HRD.out, if_neg (fun h => hm h.1)])
          clear hm
          gi_wp2_with fail
          refine ⟨trivial, (HL.out _ HI.out.b).mono ?_⟩
          rintro e W8 ⟨rfl, hb8⟩
          have hI8 := HI.out.below hb8
          have hK8 : W8.heap[D]? = some (.deferred (some [])) := (hb8.block D hDl).trans HK.out
          have hDl8 : D < W8.heap.size := Nat.lt_of_lt_of_le hDl hb8.size
          have hcr := ocells hI8.r
          have hfr := fun j => hI8.r.frozen j
          have hce := hI8.e.cell 0
          have hfe := hI8.e.frozen 0
          have hs6 := hI8.b.size
          have hs7 := hI8.x.lt
          simp only [zeroO] at hcr
          simp only [List.getElem?_toArray, List.getElem?_cons_zero] at hce
          have HI8 := Lib.hid hI8
          have HK8 := Lib.hid hK8
          clear hI8 hK8 hb8 hcx
          gi_wp2_with fail
          have hX9 := HI8.out.toX
          have hK9 := ((set7_keeps W8 w.heap.size (.int .i64 0) (.int .i64 0) (.int .i64 0) (.int .i64 0) (.int .i64 0) (.int .u32 0) (.string ⟨#[]⟩)).trans (KeepsOthers.setCell _ ⟨w.heap.size + 1, 0, none⟩ (.int .i64 200))).same D _ HK8.out rfl
          generalize ((((((((W8).setCell ⟨w.heap.size, 0, none⟩ (.int .i64 0)).setCell ⟨w.heap.size, 1, none⟩ (.int .i64 0)).setCell ⟨w.heap.size, 2, none⟩ (.int .i64 0)).setCell ⟨w.heap.size, 3, none⟩ (.int .i64 0)).setCell ⟨w.heap.size, 4, none⟩ (.int .i64 0)).setCell ⟨w.heap.size, 5, none⟩ (.int .u32 0)).setCell ⟨w.heap.size, 6, none⟩ (.string ⟨#[]⟩)).setCell ⟨w.heap.size + 1, 0, none⟩ (.int .i64 200) = W9 at *
          refine ⟨by simp, .inl ⟨_, _, rfl, run_takeDeferred hK9, ?_⟩⟩
          refine ⟨_, results_row_cell Tryd.results12 _ rfl ((World.putObj_heap_other (by omega)).trans hX9.r) Tryd.underlying24 rfl (by kernel_rfl) rfl ((World.putObj_heap_other (by omega)).trans hX9.e) Tryd.underlying25 rfl, ?_⟩
          rw [HPOST.out, HF.out]
          exact ⟨rfl, hX9.b.trans (belowK_b (w := w) (Nat.le_refl _) W9 D _ _ (by omega) hK9 rfl rfl)⟩
      case stop =>
        rintro D c pre W hD hpre ⟨rfl, hcand, hX⟩ hK
        have hrd : readO s.data.toList = none := by
          unfold readO
          rw [HKK.out, ← HWS.out, cand_prefix hpre hcand]
        have HX := Lib.hid hX
        have HK := Lib.hid hK
        have HF := Lib.hid hrd
        clear hcand hX hK hrd hR4 hN0 hK0
        dsimp only
        gi_wp2_with fail
        refine ⟨by simp, .inl ⟨_, _, rfl, run_takeDeferred HK.out, ?_⟩⟩
        refine ⟨_, results_row_cell Tryd.results12 _ rfl ((World.putObj_heap_other (by omega)).trans HX.out.r) Tryd.underlying24 rfl (by kernel_rfl) rfl ((World.putObj_heap_other (by omega)).trans HX.out.e) Tryd.underlying25 rfl, ?_⟩
        rw [HPOST.out, HF.out]
        exact ⟨rfl, HX.out.b.trans (belowK_b (w := w) (Nat.le_refl _) W D _ _ (by omega) HK.out rfl rfl)⟩

theorem read_any {w : World} (hG : Ground w) (s : ByteArray) (hs : s.size ≤ 1000000) :
    Calls Tryd.prog 12 #[.string s] w fun e w' => e = .returned (.tuple #[.agg (opA (readO s.data.toList)), .int .i64 (errO (readO s.data.toList))]) ∧ Below w.heap.size w w' := callsIn_wide.1 (read_in 8 (by omega) hG s hs)
end Go.Proofs.YtgefnicpkfcghaaDoor
