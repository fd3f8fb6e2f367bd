/-
  isa.named: an instruction's words. Condition: the tables lie as the program's text, and the library's, lay them.
-/
import Derived.BigQuiet
import Derived.Deep.RegionHeld3
import Derived.LaidEqlPtr
import Derived.Test.YtoglmemmdolbmaaDoorStr3
import Derived.Test.YtoglmemmdolbmaaDoorIs4
namespace Go.Proofs.YtoglmemmdolbmaaDoor.I
open Go.RowKit Go.Shelf
set_option linter.unusedVariables false
set_option linter.unusedSimpArgs false
attribute [local go_sem] Oper.semAt_some

theorem results_row_tmp2 {P : Program} {fn : Func} {p u v : Tmp} {ty : TypeId} (h : fn.results = #[.cell p ty, .tmp u, .tmp v]) (tmps : Array Value) {w : World} {g : Nat} {t : TypeId} {cs : Array Value} {d : TypeDesc}
    (hp : tmps.getD p undef = .pointer (some ⟨g, 0, none⟩)) (hg : Blk w g t cs) (hu : P.underlying ty = some d) (hd : (match d with | .struct _ | .array _ _ => true | _ => false) = true) (hi : (P.info? ty).map (·.size) = some cs.size) :
    (results fn tmps).run P w = .ok (.tuple #[.agg cs, tmps.getD u undef, tmps.getD v undef]) w := by
  have e1 := run_loadVar_row (P := P) w g t ty cs (0, 0) d hg hu hd hi
  have p1 : tmps[p]?.getD undef = .pointer (some ⟨g, 0, none⟩) := by simpa using hp
  simp only [results, h]
  simp [Sem.run_bind, Result.andThen, p1, asAddr, e1]

/-- What the calls stand on. -/
structure Ground (w : World) : Prop where
  laid : Laid w
  pow : Pow w
  max : MaxL w
theorem Ground.below {w w' : World} (h : Ground w) (hb : Below w.heap.size w w') : Ground w' := ⟨h.laid.below hb, h.pow.below hb, h.max.below hb⟩

/-! ## plain -/
def stN (k : Nat) (ws : List (List UInt8)) : Nat → Option NmS
  | 0 => some (nm0 ws)
  | j + 1 => (stN k ws j).bind (stepN j (wantF k j))
theorem stN_none {k : Nat} {ws : List (List UInt8)} {j : Nat} (h : stN k ws j = none) (hj : j ≤ 3) : stN k ws 3 = none := by
  rcases (show j = 0 ∨ j = 1 ∨ j = 2 ∨ j = 3 by omega) with rfl | rfl | rfl | rfl
  · cases h
  · show ((stN k ws 1).bind _).bind _ = none
    rw [h]; rfl
  · show (stN k ws 2).bind _ = none
    rw [h]; rfl
  · exact h
theorem namedO_st {ws : List (List UInt8)} (h : opW (ws.getD 0 []) < 30) : namedO ws = stN (opW (ws.getD 0 [])) ws 3 := by
  unfold namedO
  rw [if_pos h]
  rfl
theorem namedT_op {ws : List (List UInt8)} (h : opW (ws.getD 0 []) = 30) : namedT ws = ⟨x0, [], false⟩ := by
  have : namedO ws = none := by
    unfold namedO
    rw [if_neg (by omega)]
  unfold namedT
  rw [this]
theorem namedT_none {ws : List (List UInt8)} {k j : Nat} (hk : opW (ws.getD 0 []) = k) (hk2 : k < 30) (hj : j ≤ 3) (h : stN k ws j = none) : namedT ws = ⟨x0, [], false⟩ := by
  have h1 := namedO_st (ws := ws) (by omega)
  rw [hk, stN_none h hj] at h1
  unfold namedT
  rw [h1]
theorem namedT_some {ws : List (List UInt8)} {k : Nat} {s : NmS} (hk : opW (ws.getD 0 []) = k) (hk2 : k < 30) (h : stN k ws 3 = some s) : namedT ws = ⟨s.x, s.lab, s.ws.isEmpty && decide (MayI s.x)⟩ := by
  have h1 := namedO_st (ws := ws) (by omega)
  rw [hk, h] at h1
  unfold namedT
  rw [h1]
theorem opFrom_step {l : List UInt8} {k : Nat} (hk : k < 30) (h : (rowF k).1 ≠ l) : opFrom l (30 - k) k = opFrom l (30 - (k + 1)) (k + 1) := by
  obtain ⟨f, hf⟩ : ∃ f, 30 - k = f + 1 := ⟨29 - k, by omega⟩
  rw [hf, opFrom, if_neg h]
  congr 1
  omega
theorem opFrom_hit {l : List UInt8} {k : Nat} (hk : k < 30) (h : (rowF k).1 = l) : opFrom l (30 - k) k = k := by
  obtain ⟨f, hf⟩ : ∃ f, 30 - k = f + 1 := ⟨29 - k, by omega⟩
  rw [hf, opFrom, if_pos h]
theorem opFrom_last (l : List UInt8) : opFrom l (30 - 30) 30 = 30 := rfl
theorem stN_zero (k : Nat) (ws : List (List UInt8)) : stN k ws 0 = some (nm0 ws) := rfl
def nmV (t : NmT) : Value := .tuple #[.agg t.x.cells.toArray, .string ⟨t.lab.toArray⟩, .bool t.is]
theorem wantF_set (x : Ins) {j : Nat} (hj : j < 3) (n : Int) : x.cells.toArray.setIfInBounds (j + 1) (.int .i64 n) = (putF x j n).cells.toArray := by
  rcases (show j = 0 ∨ j = 1 ∨ j = 2 by omega) with rfl | rfl | rfl <;> rfl
theorem putF_op (x : Ins) (j : Nat) (n : Int) : (putF x j n).op = x.op := by
  unfold putF
  split <;> rfl

def nx (o m : Nat) : Nat := if m = 0 then o else o + 1
theorem slice_one (L o m : Nat) (W : World) : (Instr.slice 62 (.slice (some ⟨L, o, none⟩) (m + 1) (m + 1)) (some (.int .i64 1)) none none).run Tryd.prog W = .ok (.slice (some ⟨L, nx o m, none⟩) m m) W := by
  have hu : Tryd.prog.underlying 62 = some (.slice (Tryd.prog.elem 62)) := by simp [Program.elem, Tryd.underlying62]
  rw [run_slice_l W 62 (some ⟨L, o, none⟩) (m + 1) (m + 1) hu .i64 1 (by omega) (by omega)]
  have hs : (sizeOf (Tryd.prog.elem 62)).run Tryd.prog W = .ok 1 W := by
    rw [show Tryd.prog.elem 62 = 9 from by simp [Program.elem, Tryd.underlying62]]
    exact Tryd.sizeOf9 W
  rw [hs]
  unfold sliced nx
  by_cases h : m = 0
  · subst h; rfl
  · have h2 : ¬ m + 1 = Int.toNat 1 := by show ¬ m + 1 = 1; omega
    rw [if_neg h]
    simp only [Result.andThen, if_neg h2]
    rfl
theorem sliceAt_one (L o m : Nat) (W : World) : (Instr.sliceAt 62 (.slice (some ⟨L, o, none⟩) (m + 1) (m + 1)) (some (.int .i64 1)) none none).run Tryd.prog W = .ok (.slice (some ⟨L, nx o m, none⟩) m m) W := by
  rw [run_sliceAt_slice W _ _ _ _ _ (by simp [Program.elem, Tryd.underlying62])]
  exact slice_one L o m W
theorem ptr_same (W : World) (a : Addr) : (binOp .eql 146 (.pointer (some a)) (.pointer (some a))).run Tryd.prog W = .ok (.bool true) W := by
  have h : (Tryd.prog.info? 3).map (·.size) = some 1 := by kernel_rfl
  cases hi : Tryd.prog.info? 3 with
  | none => rw [hi] at h; cases h
  | some j => exact run_eql_ptr_same W a Tryd.underlying146 hi
theorem ptr_other {W : World} {b i j : Nat} {t : TypeId} {cs : Array Value} (hb : Blk W b t cs) (hij : i ≠ j) : (binOp .eql 146 (.pointer (some ⟨b, i, none⟩)) (.pointer (some ⟨b, j, none⟩))).run Tryd.prog W = .ok (.bool false) W := by
  have h : (Tryd.prog.info? 3).map (·.size) = some 1 := by kernel_rfl
  cases hi : Tryd.prog.info? 3 with
  | none => rw [hi] at h; cases h
  | some k =>
    rw [hi] at h
    have hk : k.size = 1 := by simpa using h
    exact run_eql_ptr_other W Tryd.underlying146 hi (by omega) (fun e => hij (by injection e)) hb hb
/-- What stands at a round: the result, the table of fields, so many words taken. -/
structure NI (R L T o m k j : Nat) (ws : List (List UInt8)) (s : NmS) (w W : World) : Prop where
  r : Blk W R 38 s.x.cells.toArray
  t : ∃ u, Blk W T u #[.pointer (some ⟨R, 1, none⟩), .bool (wantF k 0), .pointer (some ⟨R, 2, none⟩), .bool (wantF k 1), .pointer (some ⟨R, 3, none⟩), .bool (wantF k 2)]
  b : Below w.heap.size w W
  rt : R < T
  wr : w.heap.size ≤ R
  st : stN k ws j = some s
  op : s.x.op = (k : Int)
  em : m = s.ws.length
  ed : ∃ d, s.ws = ws.drop d ∧ (0 < m → o = d)
section
variable {R L T o m k j : Nat} {ws : List (List UInt8)} {s : NmS} {w W W' : World}
theorem NI.below (h : NI R L T o m k j ws s w W) (hb : Below W.heap.size W W') : NI R L T o m k j ws s w W' :=
  ⟨h.r.below hb h.r.lt, h.t.elim fun u x => ⟨u, x.below hb x.lt⟩, bl_step h.b hb, h.rt, h.wr, h.st, h.op, h.em, h.ed⟩
theorem NI.tlt (h : NI R L T o m k j ws s w W) : T < W.heap.size := h.t.elim fun _ x => x.lt
theorem NI.cells (h : NI R L T o m k j ws s w W) (hj : j < 3) : W.cell? ⟨T, j * 2, none⟩ = some (.pointer (some ⟨R, j + 1, none⟩)) ∧ W.cell? ⟨T, j * 2 + 1, none⟩ = some (.bool (wantF k j)) := by
  obtain ⟨u, x⟩ := h.t
  rcases (show j = 0 ∨ j = 1 ∨ j = 2 by omega) with rfl | rfl | rfl
  · exact ⟨(x.cell 0).trans rfl, (x.cell 1).trans rfl⟩
  · exact ⟨(x.cell 2).trans rfl, (x.cell 3).trans rfl⟩
  · exact ⟨(x.cell 4).trans rfl, (x.cell 5).trans rfl⟩
theorem NI.word (h : NI R L T o m k j ws s w W) (hL : Blk w L 9 (ws.map strV).toArray) {c : List UInt8} {r : List (List UInt8)} (hs : s.ws = c :: r) : W.cell? ⟨L, o, none⟩ = some (.string ⟨c.toArray⟩) := by
  obtain ⟨d, h1, h2⟩ := h.ed
  have hm := h.em
  rw [hs] at hm h1
  have ho := h2 (by rw [hm]; simp)
  have hl := hL.below h.b hL.lt
  rw [hl.cell, List.getElem?_toArray, List.getElem?_map, ho]
  have : ws[d]? = some c := by
    have e : (ws.drop d)[0]? = some c := by rw [← h1]; rfl
    rw [List.getElem?_drop] at e
    exact e
  rw [this]
  rfl
/-- No number is wanted. -/
theorem NI.skip (h : NI R L T o m k j ws s w W) (hw : wantF k j = false) : NI R L T o m k (j + 1) ws s w W := by
  refine ⟨h.r, h.t, h.b, h.rt, h.wr, ?_, h.op, h.em, h.ed⟩
  show (stN k ws j).bind (stepN j (wantF k j)) = some s
  rw [h.st, hw]
  rfl
theorem NI.next (h : NI R L T o m k j ws s w W) {c : List UInt8} {r : List (List UInt8)} (hs : s.ws = c :: r) {s' : NmS} (hw : stepN j (wantF k j) s = some s') (hws : s'.ws = r) (hop : s'.x.op = s.x.op)
    (hR : Blk W' R 38 s'.x.cells.toArray) (hT : ∃ u, Blk W' T u #[.pointer (some ⟨R, 1, none⟩), .bool (wantF k 0), .pointer (some ⟨R, 2, none⟩), .bool (wantF k 1), .pointer (some ⟨R, 3, none⟩), .bool (wantF k 2)]) (hb : Below w.heap.size w W') : NI R L T (nx o r.length) r.length k (j + 1) ws s' w W' := by
  refine ⟨hR, hT, hb, h.rt, h.wr, ?_, by rw [hop, h.op], by rw [hws], ?_⟩
  · show (stN k ws j).bind (stepN j (wantF k j)) = some s'
    rw [h.st]
    exact hw
  · obtain ⟨d, h1, h2⟩ := h.ed
    have hm := h.em
    refine ⟨d + 1, ?_, fun h0 => ?_⟩
    · rw [hws, ← List.tail_drop, ← h1, hs]
      rfl
    · unfold nx
      rw [if_neg (by omega), h2 (by rw [hm, hs]; simp)]
theorem NI.number (h : NI R L T o m k j ws s w W) (hj : j < 3) {c : List UInt8} {r : List (List UInt8)} (hs : s.ws = c :: r) (hw : wantF k j = true) (hn : numB c = true) : NI R L T (nx o r.length) r.length k (j + 1) ws ⟨r, putF s.x j (numN c), s.lab⟩ w (W.setCell ⟨R, j + 1, none⟩ (.int .i64 (numN c))) := by
  refine h.next hs ?_ rfl (putF_op _ _ _) ?_ ?_ (h.b.setCell (p := ⟨R, j + 1, none⟩) h.wr _)
  · unfold stepN
    rw [hw, hs]
    simp [hn]
  · rw [← wantF_set s.x hj]
    exact h.r.set_ (j + 1) _
  · obtain ⟨u, x⟩ := h.t
    exact ⟨u, x.far (p := ⟨R, j + 1, none⟩) (by have := h.rt; show T ≠ R; omega) _⟩
theorem NI.label (h : NI R L T o m k 2 ws s w W) {c : List UInt8} {r : List (List UInt8)} (hs : s.ws = c :: r) (hw : wantF k 2 = true) (hn : numB c = false) (hjp : jmpB (k : Int) = true) (hnm : nameB c = true) : NI R L T (nx o r.length) r.length k 3 ws ⟨r, s.x, c⟩ w W := by
  refine h.next hs ?_ rfl rfl h.r h.t h.b
  unfold stepN
  rw [hw, hs, h.op]
  simp [hn, hjp, hnm]
theorem NI.none_nil (h : NI R L T o m k j ws s w W) (hs : s.ws = []) (hw : wantF k j = true) : stN k ws (j + 1) = none := by
  show (stN k ws j).bind (stepN j (wantF k j)) = none
  rw [h.st, hw]
  show stepN j true s = none
  unfold stepN
  rw [hs]
  rfl
theorem NI.none_word (h : NI R L T o m k j ws s w W) {c : List UInt8} {r : List (List UInt8)} (hs : s.ws = c :: r) (hw : wantF k j = true) (hn : numB c = false) (hno : ¬ (j = 2 ∧ jmpB (k : Int) = true ∧ nameB c = true)) : stN k ws (j + 1) = none := by
  show (stN k ws j).bind (stepN j (wantF k j)) = none
  rw [h.st, hw]
  show stepN j true s = none
  unfold stepN
  rw [hs, h.op]
  simp only [hn, if_true, Bool.false_eq_true, if_false]
  rw [if_neg hno]
end

set_option maxRecDepth 100000 in
set_option maxHeartbeats 4000000 in
theorem named_any {w : World} (hG : Ground w) (L : Nat) (ws : List (List UInt8)) (hL : Blk w L 9 (ws.map strV).toArray) (hne : 0 < ws.length) (hlen : ws.length ≤ 1000001) :
    Calls Tryd.prog 70 #[.slice (some ⟨L, 0, none⟩) ws.length ws.length] w fun e w' => e = .returned (nmV (namedT ws)) ∧ Below w.heap.size w w' := by
  obtain ⟨m0, hm0⟩ : ∃ m0, ws.length = m0 + 1 := ⟨ws.length - 1, by omega⟩
  rw [hm0]
  have HM0 := Lib.hid hm0
  have hb0 := (Below.refl w.heap.size w).alloc (Nat.le_refl _) (.cells #[.int .i64 0, .int .i64 0, .int .i64 0, .int .i64 0] 38)
  have hr0 := Blk.new w 38 #[.int .i64 0, .int .i64 0, .int .i64 0, .int .i64 0]
  obtain ⟨post, hpost⟩ : ∃ post : Ending → World → Prop, post = fun e w' => e = .returned (nmV (namedT ws)) ∧ Below w.heap.size w w' := ⟨_, rfl⟩
  rw [← hpost]
  have HPOST := Lib.hid hpost
  clear hpost
  obtain ⟨q0, hq0⟩ : ∃ q0, ws.getD 0 [] = q0 := ⟨_, rfl⟩
  have hc0 : w.cell? ⟨L, 0, none⟩ = some (.string ⟨q0.toArray⟩) := by
    rw [hL.cell, List.getElem?_toArray, List.getElem?_map, ← hq0, List.getD_eq_getElem?_getD, List.getElem?_eq_getElem hne]
    rfl
  obtain ⟨s0, hs0⟩ : ∃ s0 : ByteArray, s0 = ⟨q0.toArray⟩ := ⟨_, rfl⟩
  rw [← hs0] at hc0
  have hLlt := hL.lt
  have HK := Lib.hid (fun k (hk : k < 30) W (hW : Below w.heap.size w W) => (hG.below hW).laid.kcell hk)
  have HC0 := Lib.hid (fun W (hW : Below w.heap.size w W) => show W.cell? ⟨L, 0, none⟩ = some (.string s0) from by
    have h1 := hL.below hW hL.lt
    have h2 := h1.cell 0
    have h3 := hL.cell 0
    rw [hc0] at h3
    rw [h2, ← h3])
  have HEQ := Lib.hid (fun k => show fN k = s0 ↔ (rowF k).1 = q0 from by
    rw [hs0]
    unfold fN
    exact ⟨fun h => by injection h with h; simpa using h, fun h => by rw [h]⟩)
  have HG := Lib.hid hG
  have HL := Lib.hid hL
  have HQ := Lib.hid hq0
  have HR0 := Lib.hid hr0
  have HB0 := Lib.hid hb0
  have hl0 : (0 : Int) < ((m0 + 1 : Nat) : Int) := by omega
  have HNU := Lib.hid (fun (c : List UInt8) W (hW : Below w.heap.size w W) => number_any (hG.below hW).pow ⟨c.toArray⟩)
  have HCH := Lib.hid (fun a b m W (hW : Below w.heap.size w W) k => check_any (hG.below hW).laid k a b m)
  clear hq0 hs0 hG hL hc0 hr0 hb0 hm0 hlen
  go_enter Tryd.func70, Tryd.ntmps70
  go_wp2
  obtain ⟨W0, hW0⟩ : ∃ W0, w.alloc (.cells #[.int .i64 0, .int .i64 0, .int .i64 0, .int .i64 0] 38) = W0 := ⟨_, rfl⟩
  rw [hW0] at HR0 HB0 ⊢
  have hW0s : w.heap.size < W0.heap.size := by rw [← hW0]; simp
  clear hW0
  go_loopw [5] (fun v wr => ∃ k : Nat, v = .int .i64 (k : Int) ∧ k ≤ 30 ∧ opFrom q0 (30 - k) k = opW q0 ∧ Below W0.heap.size W0 wr) (fun v _ => 30 - (intOf v).toNat)
  case atStart => exact ⟨0, rfl, by omega, rfl, Below.refl _ _⟩
  case round =>
    obtain ⟨k, rfl, hk, hop, hb⟩ := hrel
    have hbw := HB0.out.trans (hb.mono HB0.out.size)
    have hc0 := HC0.out _ hbw
    by_cases hk3 : k = 30
    · have hd : decide ((k : Int) < 30) = false := decide_eq_false (by omega)
      have HOF := Lib.hid (fun W (hW : Below w.heap.size w W) => show Calls Tryd.prog 27 #[.int .i64 (k : Int)] W fun e w' => e = .returned (.tuple #[.agg #[.string ⟨#[]⟩, .int .i64 0, .int .i64 0, .bool false], .bool false]) ∧ Below W.heap.size W w' from by
        have h := of_any (HG.out.below hW).laid (k : Int)
        rw [hk3] at h ⊢
        exact h)
      have HP2 := Lib.hid (show post = fun e w' => e = .returned (.tuple #[.agg #[.int .i64 0, .int .i64 0, .int .i64 0, .int .i64 0], .string ⟨#[]⟩, .bool false]) ∧ Below w.heap.size w w' from by
        have h30 : opW q0 = 30 := by rw [← hop, hk3]; rfl
        have h := namedT_op (ws := ws) (by rw [HQ.out]; exact h30)
        rw [HPOST.out, h]
        rfl)
      clear hk3 hk
      go_upto_region 2 with (fail)
      go_quiet (fail)
      have HB1 := Lib.hid (below_drewN hbw nq)
      have HR1 := Lib.hid (HR0.out.below (below_drewN hb nq) HR0.out.lt)
      clear hb hbw hc0 hop HK HC0 HEQ HQ HPOST HL
      go_wp2_with fail
      refine (HOF.out _ HB1.out).mono ?_
      rintro e W2 ⟨rfl, hb2⟩
      have hR2 := (HR1.out.below hb2 HR1.out.lt).alloc (.cells #[.string ⟨#[]⟩, .int .i64 0, .int .i64 0, .bool false] 76)
      have hB2 := bl_new (bl_step HB1.out hb2) (.cells #[.string ⟨#[]⟩, .int .i64 0, .int .i64 0, .bool false] 76)
      obtain ⟨r0, r1, r2, r3, rlt⟩ := ccells hR2
      have g0 := hR2.frozen 0
      have g1 := hR2.frozen 1
      have g2 := hR2.frozen 2
      have g3 := hR2.frozen 3
      have HR2 := Lib.hid hR2
      have HB2 := Lib.hid hB2
      clear hR2 hB2 hb2 HOF HB1 HR1
      go_wp2
      rw [HP2.out]
      exact bodyPost_ret (results_row_tmp2 Tryd.results70 _ rfl (set4_blk HR2.out _ _ _ _) Tryd.underlying38 rfl (by kernel_rfl)) rfl ⟨rfl, set4_below HB2.out (Nat.le_refl _) _ _ _ _⟩
    · have hk30 : k < 30 := by omega
      have hki : (k : Int) < 30 := by omega
      obtain ⟨d0, d1, d2, d3, dlt⟩ := HK.out k hk30 _ hbw
      by_cases he : fN k = s0
      · have heq := seq_true he
        have hopk : opW q0 = k := by rw [← hop]; exact opFrom_hit hk30 ((HEQ.out k).1 he)
        obtain ⟨fa, hfa⟩ : ∃ q, fA k = q := ⟨_, rfl⟩
        obtain ⟨fb, hfb⟩ : ∃ q, fB k = q := ⟨_, rfl⟩
        obtain ⟨fi, hfi⟩ : ∃ q, fI k = q := ⟨_, rfl⟩
        have HOF := Lib.hid (fun W (hW : Below w.heap.size w W) => show Calls Tryd.prog 27 #[.int .i64 (k : Int)] W fun e w' => e = .returned (.tuple #[.agg #[.string s0, .int .i64 fa, .int .i64 fb, .bool fi], .bool true]) ∧ Below W.heap.size W w' from by
          have h := of_any (HG.out.below hW).laid (k : Int)
          have h2 : isR (k : Int) = true := decide_eq_true (by omega)
          rw [fR_in hk30, h2] at h
          unfold aggF at h
          rw [he, hfa, hfb, hfi] at h
          exact h)
        rw [hfa] at d1
        rw [hfb] at d2
        rw [hfi] at d3
        have HN := Lib.hid (show opW (ws.getD 0 []) = k from by rw [HQ.out]; exact hopk)
        have HW := Lib.hid (show wantF k 0 = decide (0 ≤ fa) ∧ wantF k 1 = decide (0 ≤ fb) ∧ wantF k 2 = fi from by rw [← hfa, ← hfb, ← hfi]; exact ⟨rfl, rfl, rfl⟩)
        clear hfa hfb hfi
        go_upto_region 2 with (fail)
        go_quiet (fail)
        have HB1 := Lib.hid (below_drewN hbw nq)
        have HR1 := Lib.hid (HR0.out.below (below_drewN hb nq) HR0.out.lt)
        clear hb hbw hc0 hop hopk HK HC0 HEQ HQ d0 d1 d2 d3 dlt he heq
        go_wp2_with fail
        refine (HOF.out _ HB1.out).mono ?_
        rintro e W2 ⟨rfl, hb2⟩
        have hR2 := (HR1.out.below hb2 HR1.out.lt).alloc (.cells #[.string s0, .int .i64 fa, .int .i64 fb, .bool fi] 76)
        have hB2 := bl_new (bl_step HB1.out hb2) (.cells #[.string s0, .int .i64 fa, .int .i64 fb, .bool fi] 76)
        have hf0 := Blk.new W2 76 #[.string s0, .int .i64 fa, .int .i64 fb, .bool fi]
        obtain ⟨W3, hW3⟩ : ∃ W3, W2.alloc (.cells #[.string s0, .int .i64 fa, .int .i64 fb, .bool fi] 76) = W3 := ⟨_, rfl⟩
        rw [hW3] at hR2 hB2 hf0
        obtain ⟨r0, r1, r2, r3, rlt⟩ := ccells hR2
        have g0 := hR2.frozen 0
        obtain ⟨f0, f1, f2, f3, flt⟩ := ccells hf0
        have HR2 := Lib.hid hR2
        have HB2 := Lib.hid hB2
        have HF0 := Lib.hid hf0
        have hRF : w.heap.size < W2.heap.size := Nat.lt_of_lt_of_le HR1.out.lt hb2.size
        clear hR2 hB2 hb2 HOF HB1 HR1 hf0
        have HS1 := fun L o m W => slice_one L o m W
        have HS2 := fun L o m W => sliceAt_one L o m W
        have hNI0 : NI w.heap.size L W3.heap.size (nx 0 m0) m0 k 0 ws (nm0 ws) w ((W3.setCell ⟨w.heap.size, 0, none⟩ (.int .i64 (k : Int))).alloc (.cells #[.pointer (some ⟨w.heap.size, 1, none⟩), .bool (decide (0 ≤ fa)), .pointer (some ⟨w.heap.size, 2, none⟩), .bool (decide (0 ≤ fb)), .pointer (some ⟨w.heap.size, 3, none⟩), .bool fi] 147)) := by
          have hx : (nm0 ws).x = ⟨(k : Int), 0, 0, 0⟩ := by unfold nm0; rw [HN.out]
          refine ⟨?_, ⟨147, ?_⟩, ?_, HR2.out.lt, Nat.le_refl _, rfl, by rw [hx], ?_, ⟨1, ?_, fun h => ?_⟩⟩
          · rw [hx]
            exact (HR2.out.set_ 0 (.int .i64 (k : Int))).alloc _
          · rw [HW.out.1, HW.out.2.1, HW.out.2.2]
            have h := Blk.new (W3.setCell ⟨w.heap.size, 0, none⟩ (.int .i64 (k : Int))) 147 #[.pointer (some ⟨w.heap.size, 1, none⟩), .bool (decide (0 ≤ fa)), .pointer (some ⟨w.heap.size, 2, none⟩), .bool (decide (0 ≤ fb)), .pointer (some ⟨w.heap.size, 3, none⟩), .bool fi]
            simp only [World.size_setCell] at h
            exact h
          · exact bl_new (v := w) (HB2.out.setCell (p := ⟨w.heap.size, 0, none⟩) (Nat.le_refl _) (.int .i64 (k : Int))) _
          · show m0 = ws.tail.length
            rw [List.length_tail, HM0.out]
            omega
          · show ws.tail = ws.drop 1
            rw [List.drop_one]
          · unfold nx
            rw [if_neg (by omega)]
        have HNI0 := Lib.hid hNI0
        clear hNI0
        go_upto_region 10 with (fail)
        clear r0 r1 r2 r3 rlt g0 f0 f1 f2 f3 flt hRF hW3
        generalize (W3.setCell ⟨w.heap.size, 0, none⟩ (.int .i64 (k : Int))).alloc (.cells #[.pointer (some ⟨w.heap.size, 1, none⟩), .bool (decide (0 ≤ fa)), .pointer (some ⟨w.heap.size, 2, none⟩), .bool (decide (0 ≤ fb)), .pointer (some ⟨w.heap.size, 3, none⟩), .bool fi] 147) = W4 at HNI0 ⊢
        clear HR2 HB2 HF0
        go_loopw [0, 3, 53] (fun v0 v3 v53 W => ∃ (j o m : Nat) (s : NmS), v53 = .int .i64 (j : Int) ∧ j ≤ 3 ∧ v0 = .slice (some ⟨L, o, none⟩) m m ∧ v3 = .string ⟨s.lab.toArray⟩ ∧ NI w.heap.size L W3.heap.size o m k j ws s w W) (fun _ _ v53 _ => 3 - (intOf v53).toNat)
        case atStart => exact ⟨0, _, _, _, rfl, by omega, rfl, rfl, HNI0.out⟩
        case round =>
          obtain ⟨j, o, m, s, rfl, hj, rfl, rfl, hNI⟩ := hrel
          clear HNI0
          by_cases hj3 : j < 3
          · have hji : (j : Int) < 3 := by omega
            obtain ⟨t0, t1⟩ := hNI.cells hj3
            have hT := hNI.tlt
            have HNI := Lib.hid hNI
            obtain ⟨wj, hwj⟩ : ∃ q, wantF k j = q := ⟨_, rfl⟩
            rw [hwj] at t1
            have HWJ := Lib.hid hwj
            clear hwj hNI
            have hal := (Below.refl wr.heap.size wr).alloc (Nat.le_refl _) (.cells #[.pointer (some ⟨w.heap.size, j + 1, none⟩), .bool wj] 147)
            have hP := Blk.new wr 147 #[.pointer (some ⟨w.heap.size, j + 1, none⟩), .bool wj]
            have HNA := Lib.hid (HNI.out.below hal)
            have HPB := Lib.hid hP
            clear hal hP
            cases wj
            · go_wp2
              go_roundw
              case rel => exact ⟨j + 1, o, m, s, rfl, by omega, rfl, rfl, HNA.out.skip HWJ.out⟩
              case measure => simp [intOf]; omega
            · cases hws : s.ws with
              | nil =>
                have HP2 := Lib.hid (show post = fun e w' => e = .returned (.tuple #[.agg #[.int .i64 0, .int .i64 0, .int .i64 0, .int .i64 0], .string ⟨#[]⟩, .bool false]) ∧ Below w.heap.size w w' from by
                  have h := namedT_none HN.out hk30 (show j + 1 ≤ 3 by omega) (HNI.out.none_nil hws HWJ.out)
                  rw [HPOST.out, h]
                  rfl)
                have hm := HNI.out.em
                rw [hws] at hm
                simp only [List.length_nil] at hm
                subst hm
                obtain ⟨r0, r1, r2, r3, rlt⟩ := ccells (show Blk wr w.heap.size 38 #[.int .i64 s.x.op, .int .i64 s.x.a, .int .i64 s.x.b, .int .i64 s.x.imm] from HNI.out.r)
                have g0 := HNI.out.r.frozen 0
                have g1 := HNI.out.r.frozen 1
                have g2 := HNI.out.r.frozen 2
                have g3 := HNI.out.r.frozen 3
                have HRX := Lib.hid HNI.out.r
                have HBX := Lib.hid HNI.out.b
                clear hws HNI HNA HPB HPOST HN
                go_wp2
                rw [HP2.out]
                exact bodyPost_ret (results_row_tmp2 Tryd.results70 _ rfl ((set4_blk HRX.out _ _ _ _).alloc _) Tryd.underlying38 rfl (by kernel_rfl)) rfl ⟨rfl, bl_new (set4_below HBX.out (Nat.le_refl _) _ _ _ _) _⟩
              | cons c r =>
                have hm := HNI.out.em
                rw [hws] at hm
                simp only [List.length_cons] at hm
                subst hm
                have hcw := HNI.out.word HL.out hws
                have hLwr : L < wr.heap.size := Nat.lt_of_lt_of_le hLlt HNI.out.b.size
                have hmi : (0 : Int) < ((r.length + 1 : Nat) : Int) := by omega
                have HNC := Lib.hid (fun W hW => HNU.out c W hW)
                have HNM := Lib.hid (fun W => nameW_any W ⟨c.toArray⟩)
                have hcc : ((⟨c.toArray⟩ : ByteArray)).data.toList = c := by simp
                try rw [hcc] at HNC
                try rw [hcc] at HNM
                obtain ⟨sc, hsc⟩ : ∃ sc : ByteArray, sc = ⟨c.toArray⟩ := ⟨_, rfl⟩
                rw [← hsc] at hcw HNC HNM
                obtain ⟨nv, hnv⟩ : ∃ v, numN c = v := ⟨_, rfl⟩
                obtain ⟨nb, hnb⟩ : ∃ v, numB c = v := ⟨_, rfl⟩
                rw [hnv, hnb] at HNC
                have HNV := Lib.hid hnv
                have HNB := Lib.hid hnb
                have HSC := Lib.hid hsc
                have HWS := Lib.hid hws
                clear hnv hnb hsc hcc hws
                go_wp2_with fail
                refine (HNC.out _ HNA.out.b).mono ?_
                rintro e W5 ⟨rfl, hb5⟩
                have hN5 := HNA.out.below hb5
                have hP5 := HPB.out.below hb5 HPB.out.lt
                have hcw5 := hN5.word HL.out HWS.out
                rw [← HSC.out] at hcw5
                have hLW5 : L < W5.heap.size := Nat.lt_of_lt_of_le hLlt hN5.b.size
                have p0 := (hP5.cell 0).trans (show _ = some (Value.pointer (some ⟨w.heap.size, j + 1, none⟩)) from rfl)
                have p1 := (hP5.cell 1).trans (show _ = some (Value.bool true) from rfl)
                have plt := hP5.lt
                generalize wr.heap.size = PB at *
                have HN5 := Lib.hid hN5
                clear HNI HNA hN5 hP5 hb5 HNC hcw hLwr HPB t0 t1 hT
                cases nb
                case true =>
                  obtain ⟨u, hu⟩ : ∃ u, W5.cell? ⟨w.heap.size, j + 1, none⟩ = some u := by rw [HN5.out.r.cell]; exact ⟨_, Array.getElem?_eq_getElem (by show j + 1 < 4; omega)⟩
                  have gu := HN5.out.r.frozen (j + 1)
                  have rlt := HN5.out.r.lt
                  have hnum := HN5.out.number hj3 HWS.out HWJ.out HNB.out
                  rw [HNV.out] at hnum
                  have HNUM := Lib.hid hnum
                  clear hnum hcw5 hLW5
                  go_wp2
                  go_roundw
                  case rel => exact ⟨j + 1, _, _, ⟨r, putF s.x j nv, s.lab⟩, rfl, by omega, rfl, rfl, HNUM.out⟩
                  case measure => simp [intOf]; omega
                case false =>
                  by_cases hj2 : j = 2
                  · subst hj2
                    have HPE := fun W => ptr_same W ⟨w.heap.size, 3, none⟩
                    have HJ := Lib.hid (fun W => (jumps_any W (k : Int)).mono fun e w' h => show e = .returned (.bool (jmpB (k : Int))) ∧ W = w' from ⟨h.1, h.2.symm⟩)
                    obtain ⟨jb, hjb⟩ : ∃ v, jmpB (k : Int) = v := ⟨_, rfl⟩
                    rw [hjb] at HJ
                    have HJB := Lib.hid hjb
                    clear hjb
                    go_wp2_with fail
                    refine (HJ.out _).mono ?_
                    rintro e W6 ⟨rfl, rfl⟩
                    cases jb
                    case false =>
                      have HP2 := Lib.hid (show post = fun e w' => e = .returned (.tuple #[.agg #[.int .i64 0, .int .i64 0, .int .i64 0, .int .i64 0], .string ⟨#[]⟩, .bool false]) ∧ Below w.heap.size w w' from by
                        have h := namedT_none HN.out hk30 (show 2 + 1 ≤ 3 by omega) (HN5.out.none_word HWS.out HWJ.out HNB.out (fun h => by rw [HJB.out] at h; cases h.2.1))
                        rw [HPOST.out, h]
                        rfl)
                      obtain ⟨r0, r1, r2, r3, rlt⟩ := ccells (show Blk W5 w.heap.size 38 #[.int .i64 s.x.op, .int .i64 s.x.a, .int .i64 s.x.b, .int .i64 s.x.imm] from HN5.out.r)
                      have g0 := HN5.out.r.frozen 0
                      have g1 := HN5.out.r.frozen 1
                      have g2 := HN5.out.r.frozen 2
                      have g3 := HN5.out.r.frozen 3
                      have HRX := Lib.hid HN5.out.r
                      have HBX := Lib.hid HN5.out.b
                      clear HN5 HPOST HN HJ HNM
                      go_wp2
                      rw [HP2.out]
                      exact bodyPost_ret (results_row_tmp2 Tryd.results70 _ rfl (set4_blk HRX.out _ _ _ _) Tryd.underlying38 rfl (by kernel_rfl)) rfl ⟨rfl, set4_below HBX.out (Nat.le_refl _) _ _ _ _⟩
                    case true =>
                      obtain ⟨nmb, hnmb⟩ : ∃ v, nameB c = v := ⟨_, rfl⟩
                      rw [hnmb] at HNM
                      have HNMB := Lib.hid hnmb
                      clear hnmb
                      go_wp2_with fail
                      refine (HNM.out _).mono ?_
                      rintro e W7 ⟨rfl, hb7⟩
                      have hN7 := HN5.out.below hb7
                      have hcw7 := hN7.word HL.out HWS.out
                      rw [← HSC.out] at hcw7
                      have hLW7 : L < W7.heap.size := Nat.lt_of_lt_of_le hLlt hN7.b.size
                      have HN7 := Lib.hid hN7
                      clear hN7 HN5 hb7 p0 p1 plt hcw5 hLW5
                      cases nmb
                      case false =>
                        have HP2 := Lib.hid (show post = fun e w' => e = .returned (.tuple #[.agg #[.int .i64 0, .int .i64 0, .int .i64 0, .int .i64 0], .string ⟨#[]⟩, .bool false]) ∧ Below w.heap.size w w' from by
                          have h := namedT_none HN.out hk30 (show 2 + 1 ≤ 3 by omega) (HN7.out.none_word HWS.out HWJ.out HNB.out (fun h => by rw [HNMB.out] at h; cases h.2.2))
                          rw [HPOST.out, h]
                          rfl)
                        obtain ⟨r0, r1, r2, r3, rlt⟩ := ccells (show Blk W7 w.heap.size 38 #[.int .i64 s.x.op, .int .i64 s.x.a, .int .i64 s.x.b, .int .i64 s.x.imm] from HN7.out.r)
                        have g0 := HN7.out.r.frozen 0
                        have g1 := HN7.out.r.frozen 1
                        have g2 := HN7.out.r.frozen 2
                        have g3 := HN7.out.r.frozen 3
                        have HRX := Lib.hid HN7.out.r
                        have HBX := Lib.hid HN7.out.b
                        clear HN7 HPOST HN HJ HNM
                        go_wp2
                        rw [HP2.out]
                        exact bodyPost_ret (results_row_tmp2 Tryd.results70 _ rfl (set4_blk HRX.out _ _ _ _) Tryd.underlying38 rfl (by kernel_rfl)) rfl ⟨rfl, set4_below HBX.out (Nat.le_refl _) _ _ _ _⟩
                      case true =>
                        have HLA := Lib.hid (HN7.out.label HWS.out HWJ.out HNB.out HJB.out HNMB.out)
                        have HSC2 := HSC.out
                        clear HN7 HPOST HN HJ HNM
                        go_wp2
                        go_roundw
                        case rel => exact ⟨3, _, _, ⟨r, s.x, c⟩, rfl, by omega, rfl, by first | rfl | rw [HSC2], HLA.out⟩
                        case measure => simp [intOf]
                  · have HPE := ptr_other (j := 3) HN5.out.r (show j + 1 ≠ 3 by omega)
                    have HP2 := Lib.hid (show post = fun e w' => e = .returned (.tuple #[.agg #[.int .i64 0, .int .i64 0, .int .i64 0, .int .i64 0], .string ⟨#[]⟩, .bool false]) ∧ Below w.heap.size w w' from by
                      have h := namedT_none HN.out hk30 (show j + 1 ≤ 3 by omega) (HN5.out.none_word HWS.out HWJ.out HNB.out (fun h => hj2 h.1))
                      rw [HPOST.out, h]
                      rfl)
                    obtain ⟨r0, r1, r2, r3, rlt⟩ := ccells (show Blk W5 w.heap.size 38 #[.int .i64 s.x.op, .int .i64 s.x.a, .int .i64 s.x.b, .int .i64 s.x.imm] from HN5.out.r)
                    have g0 := HN5.out.r.frozen 0
                    have g1 := HN5.out.r.frozen 1
                    have g2 := HN5.out.r.frozen 2
                    have g3 := HN5.out.r.frozen 3
                    have HRX := Lib.hid HN5.out.r
                    have HBX := Lib.hid HN5.out.b
                    clear HN5 HPOST HN HNM
                    go_wp2
                    rw [HP2.out]
                    exact bodyPost_ret (results_row_tmp2 Tryd.results70 _ rfl (set4_blk HRX.out _ _ _ _) Tryd.underlying38 rfl (by kernel_rfl)) rfl ⟨rfl, set4_below HBX.out (Nat.le_refl _) _ _ _ _⟩
          · have hji : decide ((j : Int) < 3) = false := decide_eq_false (by omega)
            obtain rfl : j = 3 := by omega
            have hst := hNI.st
            have hT := namedT_some HN.out hk30 hst
            have hem := hNI.em
            have hR := hNI.r
            have hb := hNI.b
            generalize s.x = sx at *
            obtain ⟨sop, sa, sb, sm⟩ := sx
            obtain ⟨r0, r1, r2, r3, rlt⟩ := ccells (show Blk wr w.heap.size 38 #[.int .i64 sop, .int .i64 sa, .int .i64 sb, .int .i64 sm] from hR)
            have g0 := hR.frozen 0
            have g1 := hR.frozen 1
            have g2 := hR.frozen 2
            have g3 := hR.frozen 3
            have HRX := Lib.hid hR
            have HBX := Lib.hid hb
            by_cases hm : m = 0
            · subst hm
              have he : s.ws.isEmpty = true := by
                cases hw : s.ws with
                | nil => rfl
                | cons => rw [hw] at hem; cases hem
              rw [he] at hT
              obtain ⟨q, hq⟩ : ∃ q, decide (MayI ⟨sop, sa, sb, sm⟩) = q := ⟨_, rfl⟩
              have HP2 := Lib.hid (show post = fun e w' => e = .returned (.tuple #[.agg #[.int .i64 sop, .int .i64 sa, .int .i64 sb, .int .i64 sm], .string ⟨s.lab.toArray⟩, .bool q]) ∧ Below w.heap.size w w' from by
                rw [HPOST.out, hT]
                show (fun e w' => e = Ending.returned (.tuple #[_, _, .bool (true && decide (MayI ⟨sop, sa, sb, sm⟩))]) ∧ _) = _
                rw [hq]
                rfl)
              have HCK := Lib.hid (fun W (hW : Below wr.heap.size wr W) => (HCH.out sa sb sm W (bl_step HBX.out hW) sop).mono fun e w' h => show e = .returned (.int .i64 (errI ⟨sop, sa, sb, sm⟩)) ∧ Below wr.heap.size wr w' from ⟨h.1, bl_step hW h.2⟩)
              obtain ⟨er, her⟩ : ∃ er, errI ⟨sop, sa, sb, sm⟩ = er := ⟨_, rfl⟩
              rw [her] at HCK
              have heq : (er == 0) = q := by
                rw [← her, ← hq]
                by_cases h : MayI ⟨sop, sa, sb, sm⟩
                · rw [errI_yes h]; simp [h]
                · rw [errI_no h]; simp [h]
              clear hst hT hem hR hb he hNI HPOST HN hq her
              go_upto_region 23 with (fail)
              have HK := Lib.hid (Below.refl wr.heap.size wr)
              go_region_with (refine (HCK.out _ ?_).mono ?_; (focus (repeat (first | exact HK.out | refine Below.drew ?_))); rintro e W9 ⟨rfl, hb9⟩; have hR9 := HRX.out.below hb9 rlt; obtain ⟨c0, c1, c2, c3, clt⟩ := ccells hR9; have e0 := hR9.frozen 0; have e1 := hR9.frozen 1; have e2 := hR9.frozen 2; have e3 := hR9.frozen 3)
              all_goals
                have HR9 := Lib.hid hR9
                have HB9 := Lib.hid (bl_step HBX.out hb9)
                clear hR9 hb9
                go_wp2
                rw [HP2.out]
                exact bodyPost_ret (results_row_tmp2 Tryd.results70 _ rfl (set4_blk HR9.out _ _ _ _) Tryd.underlying38 rfl (by kernel_rfl)) rfl ⟨rfl, by first | exact set4_below HB9.out (Nat.le_refl _) _ _ _ _ | exact (set4_below HB9.out (Nat.le_refl _) _ _ _ _).drew⟩
            · have he : s.ws.isEmpty = false := by
                cases hw : s.ws with
                | nil => rw [hw] at hem; exact absurd hem hm
                | cons => rfl
              rw [he] at hT
              have HP2 := Lib.hid (show post = fun e w' => e = .returned (.tuple #[.agg #[.int .i64 sop, .int .i64 sa, .int .i64 sb, .int .i64 sm], .string ⟨s.lab.toArray⟩, .bool false]) ∧ Below w.heap.size w w' from by
                rw [HPOST.out, hT]
                rfl)
              have hmi : ((m : Int) == 0) = false := by simp; omega
              clear hst hT hem hR hb he hNI HPOST HN
              go_upto_region 23 with (fail)
              go_region_with (fail)
              all_goals
                go_wp2
                rw [HP2.out]
                exact bodyPost_ret (results_row_tmp2 Tryd.results70 _ rfl (set4_blk HRX.out _ _ _ _) Tryd.underlying38 rfl (by kernel_rfl)) rfl ⟨rfl, by first | exact set4_below HBX.out (Nat.le_refl _) _ _ _ _ | exact (set4_below HBX.out (Nat.le_refl _) _ _ _ _).drew⟩
      · have heq := seq_false he
        go_upto_region 2 with (fail)
        go_quiet (fail)
        go_wp2
        go_roundw
        case rel => exact ⟨k + 1, rfl, by omega, by rw [← hop]; exact (opFrom_step hk30 (fun h => he ((HEQ.out k).2 h))).symm, below_drewN hb _⟩
        case measure => simp [intOf]; omega
end Go.Proofs.YtoglmemmdolbmaaDoor.I
