/-
  isa.Assemble: a program's words. Condition: the tables lie as the program's text, and the library's, lay them; the text's length.
-/
import Derived.BigFrameIn
import Derived.Test.YtoglmemmdolbmaaDoorRes
import Derived.Test.YtoglmemmdolbmaaDoorIsC
namespace Go.Proofs.YtoglmemmdolbmaaDoor.I
open Go.RowKit Go.Shelf Go.WideMaps
set_option linter.unusedVariables false
set_option linter.unusedSimpArgs false
attribute [local go_sem] Oper.semAt_some

/-- What Assemble tells. -/
def AsmOut (w : World) (s : List UInt8) (e : Ending) (w' : World) : Prop :=
  ∃ v ws n er, asmP s = (ws, n, er) ∧ e = .returned (.tuple #[v, .int .i64 n, .int .i64 er]) ∧ w'.ownsRow w.heap.size 22 1 v ws.length (wVals ws) ∧ Below w.heap.size w w'
def S5 (b : Nat) (k : Nat) : Prop := b ≤ k ∧ k ≤ b + 4
theorem below_alloc1 (w : World) (o : Obj) : Below w.heap.size w (w.alloc o) := (Below.refl _ _).alloc (Nat.le_refl _) o
/-- PgAt, whatever the heap's size. -/
def PgN (W : World) (base pb mb : Nat) (p : PgS) (v1 v2 : Value) : Prop :=
  Blk W pb 106 #[v1, .map (some mb), v2] ∧ W.ownsRow base 22 1 v1 p.words.length (wVals p.words) ∧ MapAt W mb p.labs ∧ W.ownsRow base 112 7 v2 p.jumps.length (p.jumps.flatMap JmpS.cells) ∧ (∀ r, v1.ownBlock = some r → v2.ownBlock ≠ some r) ∧ pb < base ∧ mb < base
section
variable {W W' : World} {base pb mb : Nat} {p : PgS} {v1 v2 : Value}
theorem PgAt.n (h : PgAt W base pb mb p v1 v2) : PgN W base pb mb p v1 v2 := ⟨h.blk, h.words, h.labs, h.jumps, h.apart, h.lp, h.lm⟩
theorem PgN.at_ (h : PgN W base pb mb p v1 v2) (hb : base ≤ W.heap.size) : PgAt W base pb mb p v1 v2 := ⟨h.1, h.2.1, h.2.2.1, h.2.2.2.1, h.2.2.2.2.1, h.2.2.2.2.2.1, h.2.2.2.2.2.2, hb⟩
theorem PgN.priv (h : PgN W base pb mb p v1 v2) {B : Nat} {row : Option Nat} (hp : pb < B) (hm : mb < B) (hg : W.grownBy W' row) (hr : ∀ r, row = some r → B ≤ r ∧ (r < base ∨ ∃ o : Obj, W.heap[r]? = some o ∧ o.isCells = false)) : PgN W' base pb mb p v1 v2 :=
  ⟨h.1.grown hg (fun e => by have := (hr _ e.symm).1; omega), own_priv h.2.1 hg hr, h.2.2.1.kept hg (fun e => by have := (hr _ e.symm).1; omega), own_priv h.2.2.2.1 hg hr, h.2.2.2.2⟩
end
/-- What lies in a round. -/
structure AI (w : World) (C : Nat) (k : Nat) (q : Bool) (p : PgS) (v1 v2 : Value) (W : World) : Prop where
  pg : PgN W C (w.heap.size + 1) w.heap.size p v1 v2
  ptr : Blk W (w.heap.size + 1 + 1) 102 #[.pointer (some ⟨w.heap.size + 1, 0, none⟩)]
  n : Blk W (w.heap.size + 1 + 1 + 1) 3 #[.int .i64 k]
  fine : Blk W (w.heap.size + 1 + 1 + 1 + 1) 4 #[.bool q]
  b : Below w.heap.size w W
theorem AI.priv {w W W' : World} {C k : Nat} {q : Bool} {p : PgS} {v1 v2 : Value} {row : Option Nat} {B : Nat} (h : AI w C k q p v1 v2 W) (hB : w.heap.size + 4 < B) (hg : W.grownBy W' row) (hr : ∀ r, row = some r → B ≤ r ∧ (r < C ∨ ∃ o : Obj, W.heap[r]? = some o ∧ o.isCells = false)) : AI w C k q p v1 v2 W' :=
  ⟨h.pg.priv (B := B) (by omega) (by omega) hg hr, h.ptr.grown hg (fun e => by have := (hr _ e.symm).1; omega), h.n.grown hg (fun e => by have := (hr _ e.symm).1; omega), h.fine.grown hg (fun e => by have := (hr _ e.symm).1; omega), h.b.grown hg h.b.size (fun r e => by have := (hr r e).1; omega)⟩
theorem ai_start (w : World) (s : ByteArray) {C : Nat} (hC : w.heap.size + 1 < C) : AI w C 0 true pg0 (.slice none 0 0) (.slice none 0 0) ((((((w.alloc (.map #[] 0)).alloc (.cells #[.slice none 0 0, .map (some w.heap.size), .slice none 0 0] 106)).alloc (.cells #[.pointer (some ⟨w.heap.size + 1, 0, none⟩)] 102)).alloc (.cells #[.int .i64 0] 3)).alloc (.cells #[.bool true] 4)).alloc (.cells #[.string s] 9)) := by
  have g1 : World.grownBy w (w.alloc (.map #[] 0)) none := World.grownBy_alloc w _ none
  refine ⟨⟨?_, World.ownsRow_nil _ _ _ _, ?_, World.ownsRow_nil _ _ _ _, fun r h => (by cases h), by omega, by omega⟩, ?_, ?_, ?_, ?_⟩
  · have := ((((Blk.new (w.alloc (.map #[] 0)) 106 #[.slice none 0 0, .map (some w.heap.size), .slice none 0 0]).alloc (.cells #[.pointer (some ⟨w.heap.size + 1, 0, none⟩)] 102)).alloc (.cells #[.int .i64 0] 3)).alloc (.cells #[.bool true] 4)).alloc (.cells #[.string s] 9)
    simpa using this
  · exact (((((MapAt.made w).below (below_alloc1 _ _)).below (below_alloc1 _ _)).below (below_alloc1 _ _)).below (below_alloc1 _ _)).below (below_alloc1 _ _)
  · have := (((Blk.new ((w.alloc (.map #[] 0)).alloc (.cells #[.slice none 0 0, .map (some w.heap.size), .slice none 0 0] 106)) 102 #[.pointer (some ⟨w.heap.size + 1, 0, none⟩)]).alloc (.cells #[.int .i64 0] 3)).alloc (.cells #[.bool true] 4)).alloc (.cells #[.string s] 9)
    simpa using this
  · have := ((Blk.new (((w.alloc (.map #[] 0)).alloc (.cells #[.slice none 0 0, .map (some w.heap.size), .slice none 0 0] 106)).alloc (.cells #[.pointer (some ⟨w.heap.size + 1, 0, none⟩)] 102)) 3 #[.int .i64 0]).alloc (.cells #[.bool true] 4)).alloc (.cells #[.string s] 9)
    simpa using this
  · have := (Blk.new ((((w.alloc (.map #[] 0)).alloc (.cells #[.slice none 0 0, .map (some w.heap.size), .slice none 0 0] 106)).alloc (.cells #[.pointer (some ⟨w.heap.size + 1, 0, none⟩)] 102)).alloc (.cells #[.int .i64 0] 3)) 4 #[.bool true]).alloc (.cells #[.string s] 9)
    simpa using this
  · exact bl_new (bl_new (bl_new (bl_new (bl_new (bl_new (Below.refl w.heap.size w) _) _) _) _) _) _
theorem PgN.lb_of {W : World} {base pb mb : Nat} {p : PgS} {v1 v2 : Value} (h : PgN W base pb mb p v1 v2) (hk : 0 < p.words.length) : base ≤ W.heap.size := by
  rcases h.2.1.2 with ⟨_, h0⟩ | ⟨g, cap, cur, _, hb, hg, _⟩
  · omega
  · have := (Array.getElem?_eq_some_iff.1 hg).1; omega
theorem AI.below {w W W' : World} {C k : Nat} {q : Bool} {p : PgS} {v1 v2 : Value} (h : AI w C k q p v1 v2 W) (hb : Below W.heap.size W W') : AI w C k q p v1 v2 W' :=
  ⟨⟨h.pg.1.below hb h.pg.1.lt, own_below h.pg.2.1 hb, h.pg.2.2.1.below hb, own_below h.pg.2.2.2.1 hb, h.pg.2.2.2.2⟩, h.ptr.below hb h.ptr.lt, h.n.below hb h.n.lt, h.fine.below hb h.fine.lt, h.b.trans (hb.mono h.b.size)⟩
theorem AI.rows {w W : World} {C k : Nat} {q : Bool} {p : PgS} {v1 : Value} {A : Option Addr} {c : Nat} (h : AI w C k q p v1 (.slice A p.jumps.length c) W) : RowsAt W A 7 (p.jumps.map JmpS.cells) := by
  have h1 := h.pg.2.2.2.1
  rw [List.flatMap_def] at h1
  have h2 : W.ownsRow C 112 7 (.slice A p.jumps.length c) (p.jumps.map JmpS.cells).length (p.jumps.map JmpS.cells).flatten := by rw [List.length_map]; exact h1
  obtain ⟨A', c', e, hr, _⟩ := rows_own (fun r hr => by
    obtain ⟨j, _, rfl⟩ := List.mem_map.1 hr
    rfl) h2
  injection e with e _ _
  rw [e]
  exact hr
theorem jcells {W : World} {A : Option Addr} {js : List JmpS} (h : RowsAt W A 7 (js.map JmpS.cells)) {i : Nat} {j : JmpS} (hj : js[i]? = some j) : ∃ g o, A = some ⟨g, o, none⟩ ∧ g < W.heap.size ∧ W.cell? ⟨g, o + i * 7, none⟩ = some (.int .i64 j.pl) ∧ W.cell? ⟨g, o + i * 7 + 1, none⟩ = some (.int .i64 j.x.op) ∧ W.cell? ⟨g, o + i * 7 + 2, none⟩ = some (.int .i64 j.x.a) ∧ W.cell? ⟨g, o + i * 7 + 3, none⟩ = some (.int .i64 j.x.b) ∧ W.cell? ⟨g, o + i * 7 + 4, none⟩ = some (.int .i64 j.x.imm) ∧ W.cell? ⟨g, o + i * 7 + 5, none⟩ = some (.string ⟨j.lab.toArray⟩) ∧ W.cell? ⟨g, o + i * 7 + 6, none⟩ = some (.int .i64 j.line) := by
  obtain ⟨g, o, hA, hl, hc⟩ := h i j.cells (by rw [List.getElem?_map, hj]; rfl)
  exact ⟨g, o, hA, hl, hc 0 _ rfl, hc 1 _ rfl, hc 2 _ rfl, hc 3 _ rfl, hc 4 _ rfl, hc 5 _ rfl, hc 6 _ rfl⟩
def RunAt (pre : List (ByteArray × Bool)) (p : PgS) (q : Bool) : Prop := runC pg0 0 (pre.map toLW) = (p, (pre.length : Int), q) ∧ InvP p pre.length

set_option maxRecDepth 100000 in
set_option maxHeartbeats 8000000 in
theorem assemble_in (n : Nat) (hn : 12 ≤ n) {w : World} (hG : Ground w) (s : ByteArray) (hs : s.size ≤ 1000000) :
    CallsIn Fence.wide n Tryd.prog 24 #[.string s] w (AsmOut w (toL s)) := by
  have h1 : 1 ≤ n := by omega
  have HG := Lib.hid hG
  have HLI := Lib.hid (fun V => linesI_in (n - 1) s V)
  have hmm := @run_makeMap Tryd.prog
  clear hG
  refine callsIn_of_wp_marks Tryd.func24 rfl trivial ?_ rfl
  simp only [Tryd.ntmps24, List.size_toArray, List.length_cons, List.length_nil, Nat.reduceAdd, Nat.reduceSub, Array.replicate_succ, Array.replicate_zero, List.push_toArray, List.append_toArray, List.nil_append, List.cons_append]
  gi_wp2
  refine wpIn_scope_straight ?_
  gi_wp2
  refine wpIn_label ?_
  gi_wp2_with (refine ⟨trivial, ?_⟩; gi_at_call 48; refine (HLI.out _).mono ?_; rintro e w' ⟨rfl, rfl⟩)
  obtain ⟨W0, hW0⟩ : ∃ W0, (((((w.alloc (.map #[] 0)).alloc (.cells #[.slice none 0 0, .map (some w.heap.size), .slice none 0 0] 106)).alloc (.cells #[.pointer (some ⟨w.heap.size + 1, 0, none⟩)] 102)).alloc (.cells #[.int .i64 0] 3)).alloc (.cells #[.bool true] 4)).alloc (.cells #[.string s] 9) = W0 := ⟨_, rfl⟩
  have hsz : W0.heap.size = w.heap.size + 6 := by rw [← hW0]; simp
  have hA0 : ∀ C, w.heap.size + 6 ≤ C → AI w C 0 true pg0 (.slice none 0 0) (.slice none 0 0) W0 := fun C hC => hW0 ▸ ai_start w s (by omega)
  have hB5 : Blk W0 (w.heap.size + 1 + 1 + 1 + 1 + 1) 9 #[.string s] := by
    rw [← hW0]
    have := Blk.new (((((w.alloc (.map #[] 0)).alloc (.cells #[.slice none 0 0, .map (some w.heap.size), .slice none 0 0] 106)).alloc (.cells #[.pointer (some ⟨w.heap.size + 1, 0, none⟩)] 102)).alloc (.cells #[.int .i64 0] 3)).alloc (.cells #[.bool true] 4)) 9 #[.string s]
    simpa using this
  rw [hW0]
  clear hW0
  refine wpIn_rangeFunc_C rfl h1 (gf := 64) (lb := #[.pointer (some ⟨w.heap.size + 1 + 1 + 1 + 1 + 1, 0, none⟩)]) rfl trivial (enters_of Tryd.func64 (by kernel_rfl) rfl)
    (encs := encLW) (Mm := fun x _ => x.1.size ≤ s.size) (Kp := KpI (W0.heap.size + 2)) (S := fun xs => xs.map toLW = (lns (toL s)).map cutNl) (Sp := fun pre => pre.map toLW <+: (lns (toL s)).map cutNl) (N := 1000000)
    (fun W hW hs' => by
      have h := lines1_seq (n - 1) (by omega) (W0.heap.size + 1) (w.heap.size + 1 + 1 + 1 + 1 + 1) s hs W (hB5.below hW hB5.lt)
      rw [hs'] at h
      exact h)
    kpI_t (fun C W r o' _ => ⟨⟨by simp, fun k o hk ho _ => (World.putObj_heap_other (by omega)).trans ho⟩, fun k hk _ => World.putObj_heap_other (by omega)⟩) (fun _ => rfl) (fun x _ _ _ _ h _ _ => h)
    (fun C pre W => W0.heap.size + 2 ≤ C → ∃ p v1 v2, RunAt pre p true ∧ AI w C pre.length true p v1 v2 W)
    (fun C c pre W => W0.heap.size + 2 ≤ C → c = .exit 0 ∧ ∃ p v1 v2, RunAt pre p false ∧ AI w C pre.length false p v1 v2 W)
    (fun C s' X Y row hs' hg hr hC => by
      obtain ⟨p, v1, v2, h1, h2⟩ := hs' hC
      exact ⟨p, v1, v2, h1, h2.priv (B := W0.heap.size) (by omega) hg hr⟩)
    (fun C c s' X Y row hs' hg hr hC => by
      obtain ⟨h0, p, v1, v2, h1, h2⟩ := hs' hC
      exact ⟨h0, p, v1, v2, h1, h2.priv (B := W0.heap.size) (by omega) hg hr⟩)
    (fun C hC => ⟨pg0, _, _, ⟨rfl, inv_pg0⟩, hA0 C (by omega)⟩)
    (fun x a' _ => a' = { tmps := #[.string s, undef, .slice none 0 0, .int .i64 0, .int .i64 0, .pointer (some ⟨w.heap.size + 1 + 1, 0, none⟩), .pointer (some ⟨w.heap.size + 1 + 1 + 1, 0, none⟩), .pointer (some ⟨w.heap.size + 1 + 1 + 1 + 1, 0, none⟩), .string x.1, .bool x.2, undef, undef, undef, undef, undef, undef, .map (some w.heap.size), .agg #[.slice none 0 0, .map (some w.heap.size), .slice none 0 0], .pointer (some ⟨w.heap.size + 1, 0, none⟩), .string s, .func (.func 64) #[] #[.pointer (some ⟨w.heap.size + 1 + 1 + 1 + 1 + 1, 0, none⟩)], .string x.1, .bool x.2, undef, undef, undef, undef, undef, undef, undef, undef, undef, undef, undef, undef, undef, undef, undef, undef, undef, undef, undef, undef, undef, undef, undef, undef, undef, undef, undef, undef, undef, undef, undef, undef, undef, undef, undef, undef, undef, undef, undef, undef, undef, undef, undef, undef, undef, undef, undef, undef, undef, undef, undef, undef, undef, undef, undef, undef, undef, undef, undef, undef, undef, undef, undef, undef, undef, undef, undef], defers := [] })
    (fun x a' _ X Y row hs hg hr => hs)
    ?assign ?body ?done ?stop
  case assign =>
    rintro l C pre x W K hC1 hC2 hi hmm hK
    simp only [encLW] at hK ⊢
    gi_wp2
    exact hK _ _ (KeepsFrom.refl _ _) ⟨KeepsFrom.refl _ _, fun _ _ _ => rfl⟩ hi hmm rfl
  case body =>
    rintro l C pre x a' V hl1 hl2 hC1 hC2 hi hmm rfl hlt
    obtain ⟨p, v1, v2, hrun, hai⟩ := hi (by omega)
    obtain ⟨t, q⟩ := x
    have hmm : t.size ≤ s.size := hmm
    simp only
    have hS5 : ∀ k, S5 w.heap.size k → k < W0.heap.size := fun k hk => by unfold S5 at hk; omega
    obtain ⟨m, hm⟩ : ∃ m, m = pre.length := ⟨_, rfl⟩
    have hm0 : m ≤ 1000000 := by omega
    have HHM := Lib.hid hm
    have n0 := hai.n.cell 0
    have nf := hai.n.frozen 0
    have nl := hai.n.lt
    have p0 := hai.ptr.cell 0
    have pl := hai.ptr.lt
    have f0 := hai.fine.cell 0
    have ff := hai.fine.frozen 0
    have fl := hai.fine.lt
    simp only [List.getElem?_toArray, List.getElem?_cons_zero] at n0 p0 f0
    rw [← hm] at n0
    have hW1 := Lib.hid (show V.heap.size ≤ V.heap.size from Nat.le_refl _)
    have hP1 := (hai.pg.at_ hC2).far (q := ⟨w.heap.size + 1 + 1 + 1, 0, none⟩) (by dsimp only; omega) (by dsimp only; omega) (by dsimp only; omega) (.int .i64 ((m : Int) + 1))
    have hb1 := hai.b.setCell (p := ⟨w.heap.size + 1 + 1 + 1, 0, none⟩) (by dsimp only; omega) (.int .i64 ((m : Int) + 1))
    have hk1 := (KqS.refl (S5 w.heap.size) C V).set_ (p := ⟨w.heap.size + 1 + 1 + 1, 0, none⟩) (.inl ⟨by dsimp only; omega, by dsimp only; omega⟩) (.int .i64 ((m : Int) + 1))
    have hn1 : Blk (V.setCell ⟨w.heap.size + 1 + 1 + 1, 0, none⟩ (.int .i64 ((m : Int) + 1))) (w.heap.size + 1 + 1 + 1) 3 #[.int .i64 ((m + 1 : Nat) : Int)] := by
      have := box_set hai.n (.int .i64 ((m : Int) + 1))
      simpa using this
    have ht1 := hai.ptr.far (p := ⟨w.heap.size + 1 + 1 + 1, 0, none⟩) (by dsimp only; omega) (.int .i64 ((m : Int) + 1))
    have hf1 := hai.fine.far (p := ⟨w.heap.size + 1 + 1 + 1, 0, none⟩) (by dsimp only; omega) (.int .i64 ((m : Int) + 1))
    have hlen : (pre ++ [(t, q)]).length = m + 1 := by rw [List.length_append, hm]; rfl
    have HRUN := Lib.hid hrun
    cases q with
    | false =>
      have HE := Lib.hid (show AI w C (m + 1) false p v1 v2 ((V.setCell ⟨w.heap.size + 1 + 1 + 1, 0, none⟩ (.int .i64 ((m : Int) + 1))).setCell ⟨w.heap.size + 1 + 1 + 1 + 1, 0, none⟩ (.bool false)) from
        ⟨(hP1.far (q := ⟨w.heap.size + 1 + 1 + 1 + 1, 0, none⟩) (by dsimp only; omega) (by dsimp only; omega) (by dsimp only; omega) _).n, ht1.far (by dsimp only; omega) _, hn1.far (by dsimp only; omega) _, by have := box_set hf1 (.bool false); simpa using this, hb1.setCell (by dsimp only; omega) _⟩)
      have HK := Lib.hid (hk1.set_ (p := ⟨w.heap.size + 1 + 1 + 1 + 1, 0, none⟩) (.inl ⟨by dsimp only; omega, by dsimp only; omega⟩) (.bool false))
      clear hP1 hb1 hk1 hn1 ht1 hf1 hi hai hrun hm
      gi_wp2
      refine ⟨trivial, ?_⟩
      gi_wp2
      refine ⟨HK.out.keeps hS5, HK.out.kpI (fun k hk => by have := hS5 k hk; omega) hC2, fun _ => ⟨rfl, p, v1, v2, ⟨?_, ?_⟩, by rw [hlen]; exact HE.out⟩⟩
      · rw [hlen, List.map_append]
        have := runC_snoc _ _ _ _ _ (toLW (t, false)) HRUN.out.1
        rw [List.map_cons, List.map_nil, this]
        show (p, (pre.length : Int) + 1, false) = _
        rw [← HHM.out]
        simp
      · rw [hlen]
        exact HRUN.out.2.mono (by rw [← HHM.out]; omega)
    | true =>
      obtain ⟨r, hr⟩ : ∃ r, r = takeP p (toL t) ((m : Int) + 1) := ⟨_, rfl⟩
      have HTK := Lib.hid (show CallsIn (Fence.wide.inRound l) (n - 1 - 1 - 1) Tryd.prog 49 #[.pointer (some ⟨w.heap.size + 1, 0, none⟩), .string t, .int .i64 ((m : Int) + 1)] (V.setCell ⟨w.heap.size + 1 + 1 + 1, 0, none⟩ (.int .i64 ((m : Int) + 1))) (TakeOut (V.setCell ⟨w.heap.size + 1 + 1 + 1, 0, none⟩ (.int .i64 ((m : Int) + 1))) C (w.heap.size + 1) w.heap.size r) from by
        have hbw : w.heap.size ≤ V.heap.size := hai.b.size
        have hgl : 0 < w.heap.size := HG.out.laid.klt
        rw [hr]
        exact callsIn_wide.2 (take_any (HG.out.below hb1) hP1 t (by omega) _ (k := m) (by have := hrun.2; rw [← hm] at this; exact this) hm0 (by omega)))
      have HR := Lib.hid hr
      have HB1 := Lib.hid hb1
      have HK1 := Lib.hid hk1
      have HN1 := Lib.hid hn1
      have HT1 := Lib.hid ht1
      have HF1 := Lib.hid hf1
      clear hP1 hb1 hk1 hn1 ht1 hf1 hi hai hrun hm hr
      obtain ⟨p', rb⟩ := r
      gi_wp2_with fail
      refine ⟨trivial, fun _ => by omega, ?_⟩
      refine HTK.out.mono ?_
      rintro e V5 ⟨rfl, v1', v2', hP5, hK5⟩
      have hn5 := hK5.blk HN1.out (by unfold SLow; omega) (by omega)
      have ht5 := hK5.blk HT1.out (by unfold SLow; omega) (by omega)
      have hf5 := hK5.blk HF1.out (by unfold SLow; omega) (by omega)
      have hb5 := HB1.out.trans (hK5.bel (B := w.heap.size) (fun k hk => by unfold SLow at hk; omega) (by omega) HB1.out.size)
      have hk5 := HK1.out.trans (hK5.mono (S' := S5 w.heap.size) (fun k hk => by unfold SLow at hk; unfold S5; omega))
      have HE := Lib.hid (show AI w C (m + 1) rb p' v1' v2' (V5.setCell ⟨w.heap.size + 1 + 1 + 1 + 1, 0, none⟩ (.bool rb)) from
        ⟨(hP5.far (q := ⟨w.heap.size + 1 + 1 + 1 + 1, 0, none⟩) (by dsimp only; omega) (by dsimp only; omega) (by dsimp only; omega) _).n, ht5.far (by dsimp only; omega) _, hn5.far (by dsimp only; omega) _, by have := box_set hf5 (.bool rb); simpa using this, hb5.setCell (by dsimp only; omega) _⟩)
      have HK := Lib.hid (hk5.set_ (p := ⟨w.heap.size + 1 + 1 + 1 + 1, 0, none⟩) (.inl ⟨by dsimp only; omega, by dsimp only; omega⟩) (.bool rb))
      have HINV := Lib.hid (show InvP p' (m + 1) from by
        have h3 := takeP_inv HRUN.out.2 (toL t) ((m : Int) + 1)
        rw [← HR.out, ← HHM.out] at h3
        exact h3)
      have HRN := Lib.hid (show runC pg0 0 ((pre ++ [(t, true)]).map toLW) = (p', ((m + 1 : Nat) : Int), rb) from by
        rw [List.map_append]
        have := runC_snoc _ _ _ _ _ (toLW (t, true)) HRUN.out.1
        rw [List.map_cons, List.map_nil, this]
        show ((takeP p (toL t) ((pre.length : Int) + 1)).1, (pre.length : Int) + 1, (takeP p (toL t) ((pre.length : Int) + 1)).2) = _
        rw [← HHM.out, ← HR.out]
        simp)
      have f5 := hf5.cell 0
      have ff5 := hf5.frozen 0
      have fl5 := hf5.lt
      simp only [List.getElem?_toArray, List.getElem?_cons_zero] at f5
      clear hP5 hK5 hn5 ht5 hf5 hb5 hk5 n0 nf nl p0 pl f0 ff fl HTK HR
      cases rb with
      | false =>
        gi_wp2
        exact ⟨HK.out.keeps hS5, HK.out.kpI (fun k hk => by have := hS5 k hk; omega) hC2, fun _ => ⟨rfl, p', v1', v2', ⟨by rw [hlen]; exact HRN.out, by rw [hlen]; exact HINV.out⟩, by rw [hlen]; exact HE.out⟩⟩
      | true =>
        gi_wp2
        exact ⟨HK.out.keeps hS5, HK.out.kpI (fun k hk => by have := hS5 k hk; omega) hC2, fun _ => ⟨p', v1', v2', ⟨by rw [hlen]; exact HRN.out, by rw [hlen]; exact HINV.out⟩, by rw [hlen]; exact HE.out⟩⟩
  case done =>
    rintro D C ys V hD hC hys hi hK
    obtain ⟨p, v1, v2, hrun, hai⟩ := hi (by omega)
    have hpp : runA pg0 0 (lns (toL s)) = (p, (ys.length : Int), true) := by rw [runA_C, ← hys]; exact hrun.1
    obtain ⟨A2, c2, hv2⟩ := own_form hai.pg.2.2.2.1
    have p0 := hai.ptr.cell 0
    have f0 := hai.fine.cell 0
    simp only [List.getElem?_toArray, List.getElem?_cons_zero] at p0 f0
    have pl := hai.ptr.lt
    have fl := hai.fine.lt
    have b2 := hai.pg.1.cell 2
    have bl := hai.pg.1.lt
    simp only [List.getElem?_toArray, List.getElem?_cons_zero, List.getElem?_cons_succ] at b2
    rw [hv2] at b2
    have HAI := Lib.hid hai
    have HINV := Lib.hid hrun.2
    have HPP := Lib.hid hpp
    have HK := Lib.hid hK
    have HV2 := Lib.hid hv2
    have hjl : p.jumps.length ≤ 512 := Nat.le_trans hrun.2.jumps hrun.2.words
    clear hai hrun hi hK hpp hys hv2
    gi_wp2
    gi_loopw [42] (fun v wr => ∃ (i : Nat) (ws : List Int), v = .int .i64 (i : Int) ∧ i ≤ p.jumps.length ∧ fixJ p.labs p.jumps p.words = fixJ p.labs (p.jumps.drop i) ws ∧ ws.length = p.words.length ∧ AI w C ys.length true ⟨ws, p.labs, p.jumps⟩ v1 v2 wr ∧ wr.heap[D]? = some (.deferred (some []))) (fun v _ => p.jumps.length - (intOf v).toNat)
    case atStart => exact ⟨0, p.words, rfl, Nat.zero_le _, rfl, rfl, HAI.out, HK.out⟩
    case round =>
      obtain ⟨i, ws, rfl, hi, hfx, hwl, hai, hk⟩ := hrel
      clear p0 pl f0 fl b2 bl
      by_cases hlt : i < p.jumps.length
      · obtain ⟨j, hj⟩ : ∃ j, p.jumps[i]? = some j := ⟨_, List.getElem?_eq_getElem hlt⟩
        have hjm : j ∈ p.jumps := List.mem_of_getElem? hj
        have hdrop : p.jumps.drop i = j :: p.jumps.drop (i + 1) := by
          rw [List.drop_eq_getElem_cons hlt, (List.getElem?_eq_some_iff.1 hj).2]
        have hpl := (HINV.out.js j hjm).1
        have hlab := (HINV.out.js j hjm).2
        have hvals := HINV.out.vals j.lab
        have hwb := HINV.out.words
        have hrows := AI.rows (p := ⟨ws, p.labs, p.jumps⟩) (HV2.out ▸ hai)
        obtain ⟨g2, o2, rfl, g2l, r0, r1, r2, r3, r4, r5, r6⟩ := jcells hrows hj
        rw [hdrop] at hfx
        obtain ⟨jp, ⟨xo, xa, xb, xm⟩, lab, line⟩ := j
        simp only at hpl hlab hvals r0 r1 r2 r3 r4 r5 r6
        obtain ⟨k, rfl⟩ := Int.eq_ofNat_of_zero_le hpl.1
        obtain ⟨tb, htb⟩ : ∃ tb : ByteArray, (⟨lab.toArray⟩ : ByteArray) = tb := ⟨_, rfl⟩
        have htl : tb.data.toList = lab := by rw [← htb]
        rw [htb] at r5
        have HTS : tb.size ≤ maxLen := by
          have h3 := hlab
          rw [← htl] at h3
          have h4 : tb.size = tb.data.toList.length := (Array.length_toList).symm
          unfold maxLen
          omega
        obtain ⟨c, hc⟩ : ∃ c, (labO p.labs lab).getD 0 = c := ⟨_, rfl⟩
        obtain ⟨q, hq⟩ : ∃ q, (labO p.labs lab).isSome = q := ⟨_, rfl⟩
        have hcr : 0 ≤ c ∧ c ≤ 512 := by
          rw [← hc]
          cases hl : labO p.labs lab with
          | none => exact ⟨Int.le_refl 0, by decide⟩
          | some v => exact hvals v hl
        have hB1 := (Below.refl wr.heap.size wr).alloc (Nat.le_refl _) (.cells #[.int .i64 (k : Int), .int .i64 xo, .int .i64 xa, .int .i64 xb, .int .i64 xm, .string tb, .int .i64 line] 112)
        have hlook := ((hai.below hB1.drew).pg.2.2.1).lookD tb HTS
        rw [htl, hc, hq] at hlook
        have hB2 := (Below.refl wr.heap.size wr).alloc (Nat.le_refl _) (.cells #[.int .i64 (k : Int), .int .i64 xo, .int .i64 xa, .int .i64 xb, .int .i64 (c - k - 1), .string tb, .int .i64 line] 112)
        obtain ⟨er, her⟩ : ∃ er, errI ⟨xo, xa, xb, c - k - 1⟩ = er := ⟨_, rfl⟩
        obtain ⟨ew, hew⟩ : ∃ ew, encW ⟨xo, xa, xb, c - k - 1⟩ = ew := ⟨_, rfl⟩
        have HEN := Lib.hid (show CallsIn Fence.wide (n - 1) Tryd.prog 50 #[.agg #[.int .i64 xo, .int .i64 xa, .int .i64 xb, .int .i64 (c - k - 1)]] (wr.alloc (.cells #[.int .i64 (k : Int), .int .i64 xo, .int .i64 xa, .int .i64 xb, .int .i64 (c - k - 1), .string tb, .int .i64 line] 112)).drew fun e w' => e = .returned (.tuple #[.int .u32 ew, .int .i64 er]) ∧ Below (wr.alloc (.cells #[.int .i64 (k : Int), .int .i64 xo, .int .i64 xa, .int .i64 xb, .int .i64 (c - k - 1), .string tb, .int .i64 line] 112)).drew.heap.size (wr.alloc (.cells #[.int .i64 (k : Int), .int .i64 xo, .int .i64 xa, .int .i64 xb, .int .i64 (c - k - 1), .string tb, .int .i64 line] 112)).drew w' from
          callsIn_wide.2 (by
            have h3 := encode_any ((HG.out.below hai.b).below hB2.drew).laid xo xa xb (c - k - 1)
            rw [her, hew] at h3
            exact h3))
        have p0 := hai.ptr.cell 0
        have pl := hai.ptr.lt
        have b1 := hai.pg.1.cell 1
        have bl := hai.pg.1.lt
        simp only [List.getElem?_toArray, List.getElem?_cons_zero, List.getElem?_cons_succ] at p0 b1
        have hkr : (k : Int) ≤ 512 := by omega
        have hii : (i : Int) < (p.jumps.length : Int) := by omega
        have HX1 := Lib.hid (Blk.new wr 112 #[.int .i64 (k : Int), .int .i64 xo, .int .i64 xa, .int .i64 xb, .int .i64 (c - k - 1), .string tb, .int .i64 line])
        have HAI2 := Lib.hid hai
        have HK2 := Lib.hid hk
        have HFX := Lib.hid hfx
        have HPL := Lib.hid hpl
        have HB2 := Lib.hid hB2
        have HQ := Lib.hid hq
        have HC := Lib.hid hc
        have HER := Lib.hid her
        have HEW := Lib.hid hew
        have HWL := Lib.hid hwl
        clear hai hk hfx hpl hlab hB1 hB2 hq hc her hew htl htb hvals hrows hdrop hjm hj hwl HTS
        gi_wp2
        gi_region
        gi_wp2_with fail
        refine ⟨trivial, HEN.out.mono ?_⟩
        rintro e W5 ⟨rfl, hb5⟩
        have hB5' : Below wr.heap.size wr W5 := HB2.out.drew.trans (hb5.mono (by simp))
        have hX5 : Blk W5 wr.heap.size 112 #[.int .i64 (k : Int), .int .i64 xo, .int .i64 xa, .int .i64 xb, .int .i64 (c - k - 1), .string tb, .int .i64 line] := (HX1.out.drew).below hb5 HX1.out.lt
        have HAI5 := Lib.hid (HAI2.out.below hB5')
        have HK5 := Lib.hid ((hB5'.block D (Array.getElem?_eq_some_iff.1 HK2.out).1).trans HK2.out)
        clear hlook r0 r1 r2 r3 r4 r5 r6 g2l p0 pl b1 bl hb5 hB5'
        have p0 := HAI5.out.ptr.cell 0
        have pl := HAI5.out.ptr.lt
        have b0 := HAI5.out.pg.1.cell 0
        have bl := HAI5.out.pg.1.lt
        have x0 := hX5.cell 0
        have x6 := hX5.cell 6
        have xl := hX5.lt
        simp only [List.getElem?_toArray, List.getElem?_cons_zero, List.getElem?_cons_succ] at p0 b0 x0 x6
        clear hX5
        have h3 : (q = false ∧ fixJ p.labs p.jumps p.words = (ws, some line)) ∨ (q = true ∧ er = 30 ∧ fixJ p.labs p.jumps p.words = (ws, some line)) ∨ (q = true ∧ er = 0 ∧ fixJ p.labs p.jumps p.words = fixJ p.labs (p.jumps.drop (i + 1)) (ws.set k ew)) := by
          have hf := HFX.out
          have h4 := HQ.out
          have h5 := HC.out
          have h6 := HER.out
          have h7 := HEW.out
          simp only [fixJ] at hf
          cases hl : labO p.labs lab with
          | none =>
            rw [hl] at hf h4
            exact .inl ⟨h4.symm, hf⟩
          | some tp =>
            rw [hl] at hf h4 h5
            simp only [Option.getD_some] at h5
            subst h5
            have hj : jmpX ⟨(k : Int), ⟨xo, xa, xb, xm⟩, lab, line⟩ tp = ⟨xo, xa, xb, tp - k - 1⟩ := rfl
            simp only [hj] at hf
            by_cases hm : MayI ⟨xo, xa, xb, tp - k - 1⟩
            · rw [if_pos hm] at hf
              rw [errI_yes hm] at h6
              have h8 : encI ⟨xo, xa, xb, tp - k - 1⟩ = ew := by rw [← h7]; unfold encW; rw [if_pos hm]
              rw [h8] at hf
              exact .inr (.inr ⟨h4.symm, h6.symm, hf⟩)
            · rw [if_neg hm] at hf
              rw [errI_no hm] at h6
              exact .inr (.inl ⟨h4.symm, h6.symm, hf⟩)
        have H3 := Lib.hid h3
        clear h3
        rcases H3.out with ⟨rfl, hf⟩ | ⟨rfl, rfl, hf⟩ | ⟨rfl, rfl, hf⟩
        case inr.inr =>
          have hkl : k < ws.length := by
            have h4 := HPL.out
            have h5 := HWL.out
            omega
          have hPA := HAI5.out.pg.at_ (HAI5.out.pg.lb_of (by show 0 < ws.length; omega))
          obtain ⟨g1, c1, rfl, hg1, hcw, hfw, hgl, hcc, hP6⟩ := hPA.setWord (k := k) hkl ew
          have hD1 : g1 ≠ D := by
            intro e
            subst e
            obtain ⟨_, o, ho, hoc⟩ := own_row hPA.words g1 rfl
            rw [HK5.out] at ho
            injection ho with ho
            rw [← ho] at hoc
            cases hoc
          have hk0 : (0 : Int) ≤ (k : Int) := by omega
          have hkl2 : (k : Int) < (ws.length : Int) := by omega
          have HP6 := Lib.hid hP6
          have HF := Lib.hid hf
          have HG1 := Lib.hid hg1
          clear hPA hP6 hf H3 hcc hg1 x6
          simp only at hcw hfw b0
          have HAI6 := Lib.hid (show AI w C ys.length true ⟨ws.set k ew, p.labs, p.jumps⟩ (.slice (some ⟨g1, 0, none⟩) ws.length c1) v2 (W5.setCell ⟨g1, k, none⟩ (.int .u32 ew)) from by
            have hg := HG1.out
            exact ⟨HP6.out.n, HAI5.out.ptr.far (by dsimp only; omega) _, HAI5.out.n.far (by dsimp only; omega) _, HAI5.out.fine.far (by dsimp only; omega) _, HAI5.out.b.setCell (by dsimp only; omega) _⟩)
          have HK6 := Lib.hid (show (W5.setCell ⟨g1, k, none⟩ (.int .u32 ew)).heap[D]? = some (.deferred (some [])) from (Below.heap_setCell W5 _ _ D (fun e => hD1 e.symm)).trans HK5.out)
          gi_wp2
          gi_region
          gi_wp2
          go_roundw
          case rel => exact ⟨i + 1, ws.set k ew, rfl, by omega, HF.out, by rw [List.length_set]; exact HWL.out, HAI6.out.below (Below.refl _ _).drew, HK6.out⟩
          case measure => simp [intOf]; omega
        all_goals
          have HF := Lib.hid hf
          clear hf H3
          gi_wp2
          gi_region
          all_goals
            gi_wp2
            rw [Exit.noGoto_ret]
            have hK8 : (W5.drew).heap[D]? = some (.deferred (some [])) := HK5.out
            have hasm : asmP (toL s) = ([], line, 31) := by
              unfold asmP
              rw [HPP.out]
              simp only [if_true]
              rw [HF.out]
            refine ⟨by simp, .inl ⟨_, _, rfl, run_takeDeferred hK8, ?_⟩⟩
            exact ⟨_, results_tmp3 rfl _ _ _, _, _, _, _, hasm, rfl, World.ownsRow_nil _ _ _ _, HAI5.out.b.drew.trans (belowK_b (w := w) (Nat.le_refl _) W5.drew D _ _ (by omega) hK8 rfl rfl)⟩
      · have hie : i = p.jumps.length := by omega
        have hfe : fixJ p.labs p.jumps p.words = (ws, none) := by
          rw [hfx, hie, List.drop_length]
          rfl
        have p0 := hai.ptr.cell 0
        have pl := hai.ptr.lt
        have b0 := hai.pg.1.cell 0
        have bl := hai.pg.1.lt
        simp only [List.getElem?_toArray, List.getElem?_cons_zero, List.getElem?_cons_succ] at p0 b0
        have hni : ¬ (i : Int) < (p.jumps.length : Int) := by omega
        have HAI2 := Lib.hid hai
        have HK2 := Lib.hid hk
        have HF := Lib.hid hfe
        clear hai hk hfx hfe hwl hlt hie
        gi_wp2
        have hK8 := HK2.out
        have hasm : asmP (toL s) = (ws, 0, 0) := by
          unfold asmP
          rw [HPP.out]
          simp only [if_true]
          rw [HF.out]
        refine ⟨by simp, .inl ⟨_, _, rfl, run_takeDeferred hK8, ?_⟩⟩
        exact ⟨_, results_tmp3 rfl _ _ _, _, _, _, _, hasm, rfl, ownsRow_putObj (own_lower HAI2.out.pg.2.1 (by omega)) _ hK8 rfl, HAI2.out.b.trans (belowK_b (w := w) (Nat.le_refl _) wr D _ _ (by omega) hK8 rfl rfl)⟩
  case stop =>
    rintro D C cc pre V hD hC hSp hix hK
    obtain ⟨rfl, p, v1, v2, hrun, hai⟩ := hix (by omega)
    have n0 := hai.n.cell 0
    have f0 := hai.fine.cell 0
    simp only [List.getElem?_toArray, List.getElem?_cons_zero] at n0 f0
    have nl := hai.n.lt
    have fl := hai.fine.lt
    have HB := Lib.hid hai.b
    have HRUN := Lib.hid hrun
    have HSP := Lib.hid hSp
    have HK := Lib.hid hK
    clear hai hix hrun hSp hK
    gi_wp2
    gi_region
    all_goals
      gi_wp2
      rw [Exit.noGoto_ret]
      have hK8 : (V.drew).heap[D]? = some (.deferred (some [])) := HK.out
      have hasm : asmP (toL s) = ([], (pre.length : Int), 31) := by
        obtain ⟨r, hr⟩ := HSP.out
        have h3 := runC_stop _ _ _ _ _ r HRUN.out.1
        rw [hr, ← runA_C] at h3
        unfold asmP
        rw [h3]
        rfl
      refine ⟨by simp, .inl ⟨_, _, rfl, run_takeDeferred hK8, ?_⟩⟩
      exact ⟨_, results_tmp3 rfl _ _ _, _, _, _, _, hasm, rfl, World.ownsRow_nil _ _ _ _, HB.out.drew.trans (belowK_b (w := w) (Nat.le_refl _) V.drew D _ _ (by omega) hK8 rfl rfl)⟩
end Go.Proofs.YtoglmemmdolbmaaDoor.I
