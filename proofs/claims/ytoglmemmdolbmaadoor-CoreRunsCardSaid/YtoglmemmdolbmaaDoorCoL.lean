/-
  core.Run for a caller. Condition: the tables lie as the program's text lays them; a memory lies in blocks of its own.
-/
import Derived.Test.YtoglmemmdolbmaaDoorCoS
namespace Go.Proofs.YtoglmemmdolbmaaDoor
section
open Go.RowKit Go.Shelf
set_option linter.unusedVariables false
set_option linter.unusedSimpArgs false
attribute [local go_sem] Oper.semAt_some
attribute [local go_sem] run_store_complex
attribute [local irreducible] floatOfInt wz

theorem results_row_tmp2 {P : Program} {fn : Func} {p u v : Tmp} {ty : TypeId} (h : fn.results = #[.cell p ty, .tmp u, .tmp v]) (tmps : Array Value) {w : World} {g : Nat} {t : TypeId} {cs : Array Value} {d : TypeDesc}
    (hp : tmps.getD p undef = .pointer (some ⟨g, 0, none⟩)) (hg : Blk w g t cs) (hu : P.underlying ty = some d) (hd : (match d with | .struct _ | .array _ _ => true | _ => false) = true) (hi : (P.info? ty).map (·.size) = some cs.size) :
    (results fn tmps).run P w = .ok (.tuple #[.agg cs, tmps.getD u undef, tmps.getD v undef]) w := by
  have e1 := run_loadVar_row w g t ty cs (0, 0) d hg hu hd hi
  have p1 : tmps[p]?.getD undef = .pointer (some ⟨g, 0, none⟩) := by simpa using hp
  simp only [results, h]
  simp [Sem.run_bind, Result.andThen, p1, asAddr, e1]
theorem box1 {W : World} {b : Nat} {t : TypeId} {v : Value} (h : Blk W b t #[v]) (u : Value) : Blk (W.setCell ⟨b, 0, none⟩ u) b t #[u] := by
  have := h.set_ 0 u
  simpa using this
/-- How many of the first j steps have not trapped, if but the last one may. -/
noncomputable def manyN (c : Cp) (m : List Int) (j : Nat) : Nat := if (stN c m j).2.1 = 0 then j else j - 1
/-- What lies ahead of round j: the Cpu, how many, the most, with what it ended, the result's block. -/
structure RunI (w : World) (B : Nat) (c : Cp) (m : List Int) (most : Int) (j : Nat) (W : World) : Prop where
  cc : CpAt W w.heap.size (stN c m j).1
  k : Blk W (w.heap.size + 1) 3 #[.int .i64 most]
  r : Blk W (w.heap.size + 2) 28 c0A
  nn : Blk W (w.heap.size + 3) 3 #[.int .i64 (manyN c m j : Nat)]
  e : Blk W (w.heap.size + 4) 3 #[.int .i64 (stN c m j).2.1]
  b : But (fun k => k = B) w W
  f : freeN c m (j - 1)
theorem RunI.grown {w W W' : World} {B : Nat} {c : Cp} {m : List Int} {most : Int} {j : Nat} {row : Option Nat} (h : RunI w B c m most j W) (hg : W.grownBy W' row) (hB : B < w.heap.size) (hr : ∀ r, row = some r → r = B ∨ w.heap.size + 5 ≤ r) : RunI w B c m most j W' :=
  ⟨h.cc.grown hg (fun e => by rcases hr _ e.symm with h | h <;> omega), h.k.grown hg (fun e => by rcases hr _ e.symm with h | h <;> omega), h.r.grown hg (fun e => by rcases hr _ e.symm with h | h <;> omega), h.nn.grown hg (fun e => by rcases hr _ e.symm with h | h <;> omega), h.e.grown hg (fun e => by rcases hr _ e.symm with h | h <;> omega),
    ⟨hg.os.trans h.b.os, hg.tape.trans h.b.tape, hg.output.trans h.b.output, Nat.le_trans h.b.size hg.size, fun k hk hn => (hg.block k (Nat.lt_of_lt_of_le hk h.b.size) (fun e => by rcases hr _ e.symm with h | h <;> omega)).trans (h.b.block k hk hn)⟩, h.f⟩

theorem grown_but {w w' : World} {row : Option Nat} (hg : w.grownBy w' row) : But (fun k => row = some k) w w' := ⟨hg.os, hg.tape, hg.output, hg.size, fun k hk hn => hg.block k hk (fun e => hn e.symm)⟩
theorem ram_own {g : Nat} {A : Option Addr} {B cap n0 : Nat} {m : List Int} (hg : g < n0) (hB : B < n0) : OwnFrom n0 (fun (_ : Unit) W => RamAt W g A B cap m) := fun s W W' row h hg' hr =>
  h.but (grown_but hg') (fun e => by have := (hr _ e).1; omega) (fun e => by have := (hr _ e).1; omega)
theorem own_pure {n0 : Nat} {β : Type} (p : Prop) : OwnFrom n0 (fun (_ : β) (_ : World) => p) := fun _ _ _ _ h _ _ => h
theorem keeps_but {S : Nat → Prop} {n0 : Nat} {W W' : World} (h : But S W W') (hS : ∀ k, S k → k < n0) : KeepsFrom n0 W W' :=
  ⟨h.size, fun k o hk ho _ => (h.block k (Array.getElem?_eq_some_iff.1 ho).1 (fun e => by have := hS k e; omega)).trans ho⟩
theorem RunI.next {w W W' : World} {B : Nat} {c : Cp} {m : List Int} {most : Int} {j : Nat} (h : RunI w B c m most j W) (hb : But (fun k => k = w.heap.size ∨ k = w.heap.size + 3 ∨ k = w.heap.size + 4) W W') (hc : CpAt W' w.heap.size (stN c m (j + 1)).1)
    (hn : Blk W' (w.heap.size + 3) 3 #[.int .i64 (manyN c m (j + 1) : Nat)]) (he : Blk W' (w.heap.size + 4) 3 #[.int .i64 (stN c m (j + 1)).2.1]) (hf : freeN c m j) : RunI w B c m most (j + 1) W' :=
  ⟨hc, h.k.but hb (by omega), h.r.but hb (by omega), hn, he, h.b.trans hb (fun i hi => by omega), hf⟩
/-- The blocks that a round's body turns, and the loop's own record. -/
def SKr (b k : Nat) : Prop := k = b ∨ k = b + 3 ∨ k = b + 4 ∨ k = b + 8

set_option maxRecDepth 100000 in
set_option maxHeartbeats 16000000 in
theorem core_in (n : Nat) (hn : 8 ≤ n) {w : World} (hL : I.Laid w) {g : Nat} {A : Option Addr} {B cap : Nat} {m : List Int} (hM : RamAt w g A B cap m) (hB : B < w.heap.size) (hBf : B ≠ 0) (c : Cp) (hc : c.Ok) (most : Int) (hm0 : 1 ≤ most) (hm1 : most ≤ 9223372036854775807) :
    CallsIn Fence.wide n Tryd.prog 9 #[.agg c.arr, .iface 31 (.pointer (some ⟨g, 0, none⟩)), .int .i64 most] w fun e w' =>
      e = .returned (.tuple #[.agg (runP c m most.toNat).1.arr, .int .i64 ((runP c m most.toNat).2.1 : Nat), .int .i64 (runP c m most.toNat).2.2.1]) ∧ RamAt w' g A B cap (runP c m most.toNat).2.2.2 ∧ But (fun k => k = B) w w' := by
  have h1 : 1 ≤ n := by omega
  have HST := Lib.hid (fun W => steps_in (n - 1) c g W)
  have HL := Lib.hid hL
  have HM := Lib.hid hM
  have HC := Lib.hid hc
  have hX := Blk.new w 28 c.arr
  obtain ⟨W0, hW0⟩ : ∃ W0, W0 = ((((w.alloc (.cells c.arr 28)).alloc (.cells #[.int .i64 most] 3)).alloc (.cells c0A 28)).alloc (.cells #[.int .i64 0] 3)).alloc (.cells #[.int .i64 0] 3) := ⟨_, rfl⟩
  obtain ⟨x0, x1, x2, x3, x4, x5, x6, x7, x8, x9, x10, xlt⟩ := cp_all ((((hX.alloc (.cells #[.int .i64 most] 3)).alloc (.cells c0A 28)).alloc (.cells #[.int .i64 0] 3)).alloc (.cells #[.int .i64 0] 3))
  clear hL hM hX hc
  unfold c0A at *
  refine callsIn_of_wp_marks Tryd.func9 rfl trivial ?_ rfl
  simp only [Tryd.ntmps9, List.size_toArray, List.length_cons, List.length_nil, Nat.reduceAdd, Nat.reduceSub, Array.replicate_succ, Array.replicate_zero, List.push_toArray, List.append_toArray, List.nil_append, List.cons_append]
  gi_wp2_with (fail)
  refine wpIn_scope_straight ?_
  have hlt1 : ¬ most < 1 := by omega
  gi_wp2_with (fail)
  refine wpIn_label ?_
  gi_wp2_with (fail)
  refine ⟨trivial, ?_⟩
  rw [← hW0]
  refine (HST.out W0).mono ?_
  rintro e _ ⟨rfl, rfl⟩
  gi_wp2_with (fail)
  have hC0 := Lib.hid ((((((Blk.new w 28 c.arr).alloc (.cells #[.int .i64 most] 3)).alloc (.cells c0A 28)).alloc (.cells #[.int .i64 0] 3)).alloc (.cells #[.int .i64 0] 3)))
  have hK0 := Lib.hid (((((Blk.new (w.alloc (.cells c.arr 28)) 3 #[.int .i64 most])).alloc (.cells c0A 28)).alloc (.cells #[.int .i64 0] 3)).alloc (.cells #[.int .i64 0] 3))
  have hR0 := Lib.hid ((((Blk.new ((w.alloc (.cells c.arr 28)).alloc (.cells #[.int .i64 most] 3)) 28 c0A)).alloc (.cells #[.int .i64 0] 3)).alloc (.cells #[.int .i64 0] 3))
  have hN0 := Lib.hid ((Blk.new (((w.alloc (.cells c.arr 28)).alloc (.cells #[.int .i64 most] 3)).alloc (.cells c0A 28)) 3 #[.int .i64 0]).alloc (.cells #[.int .i64 0] 3))
  have hE0 := Lib.hid (Blk.new ((((w.alloc (.cells c.arr 28)).alloc (.cells #[.int .i64 most] 3)).alloc (.cells c0A 28)).alloc (.cells #[.int .i64 0] 3)) 3 #[.int .i64 0])
  have hb0 : Below w.heap.size w W0 := by rw [hW0]; exact bl_new (bl_new (bl_new (bl_new (bl_new (Below.refl _ w) _) _) _) _) _
  have hs0 : W0.heap.size = w.heap.size + 5 := by rw [hW0]; simp [c0A]
  obtain ⟨V, hV⟩ : ∃ V, V = (W0.alloc (.cells c.arr 28)).alloc (.cells #[.iface 31 (.pointer (some ⟨g, 0, none⟩))] 66) := ⟨_, rfl⟩
  have hsV : V.heap.size = w.heap.size + 7 := by rw [hV]; simp [hs0]
  have hVW : Below w.heap.size w V := by rw [hV]; exact bl_new (bl_new hb0 _) _
  have h0V : Below W0.heap.size W0 V := by rw [hV]; exact bl_new (bl_new (Below.refl _ W0) _) _
  have hc5 : CpAt V (w.heap.size + 5) c := by
    have h := (Blk.new W0 28 c.arr).alloc (.cells #[.iface 31 (.pointer (some ⟨g, 0, none⟩))] 66)
    rw [hs0, ← hV] at h
    exact h
  have hi6 : Blk V (w.heap.size + 6) 66 #[.iface 31 (.pointer (some ⟨g, 0, none⟩))] := by
    have h := Blk.new (W0.alloc (.cells c.arr 28)) 66 #[.iface 31 (.pointer (some ⟨g, 0, none⟩))]
    rw [World.size_alloc, hs0, ← hV] at h
    exact h
  have hfo := HL.out.klt
  have hgl := HM.out.p.lt
  have hAT : AtN g (w.heap.size + 5) (w.heap.size + 6) A B cap c m 0 V := ⟨HL.out.below hVW, HM.out.below hVW, by omega, hc5, hi6, fun i hi => by omega⟩
  have hfix : ∀ {k : Nat} {t : TypeId} {cs : Array Value}, Blk W0 k t cs → Blk V k t cs := fun h => h.below h0V h.lt
  have hRI : RunI w B c m most 0 V := by
    refine ⟨hfix ?_, hfix ?_, hfix ?_, hfix ?_, hfix ?_, But.of_below hVW, fun i hi => by omega⟩
    · rw [hW0]; exact hC0.out
    · rw [hW0]
      have h := hK0.out
      simp only [World.size_alloc] at h
      exact h
    · rw [hW0]
      have h := hR0.out
      simp only [World.size_alloc] at h
      exact h
    · rw [hW0]
      have h := hN0.out
      simp only [World.size_alloc] at h
      exact h
    · rw [hW0]
      have h := hE0.out
      simp only [World.size_alloc] at h
      exact h
  have HMost := Lib.hid (show ∃ q : Nat, most = q ∧ most.toNat = q ∧ 1 ≤ q ∧ q ≤ 9223372036854775807 from ⟨most.toNat, by omega, rfl, by omega, by omega⟩)
  rw [← hW0, ← hV]
  clear hC0 hK0 hR0 hN0 hE0 x0 x1 x2 x3 x4 x5 x6 x7 x8 x9 x10 xlt hfix hc5 hi6 hV hW0 h0V hb0 hs0 HST
  refine wpIn_rangeFunc_N (T := fun r => r = w.heap.size + 5 ∨ r = B) (by intro r h; rcases h with h | h <;> omega) rfl h1 (gf := 47) (lb := #[.pointer (some ⟨w.heap.size + 1 + 1 + 1 + 1 + 1, 0, none⟩), .pointer (some ⟨w.heap.size + 1 + 1 + 1 + 1 + 1 + 1, 0, none⟩)]) rfl trivial (enters_of Tryd.func47 (by kernel_rfl) rfl)
    (encs := encN c m) (Mm := fun j W => freeN c m j ∧ RamAt W g A B cap (stN c m (j + 1)).2.2) (Kp := fun W W' => But (SKr w.heap.size) W W')
    (S := fun j W => RamAt W g A B cap (stN c m j).2.2 ∧ ∃ i, j = i + 1 ∧ freeN c m i ∧ (stN c m j).2.1 ≠ 0) (Sp := fun j W => RamAt W g A B cap (stN c m j).2.2) (N := most.toNat + 1)
    (fun W hW hs => steps1_in (g := g) (Bc := w.heap.size + 5) (Bm := w.heap.size + 6) c HC.out m (most.toNat + 1) (V.heap.size + 1) (SKr w.heap.size) (n - 1) (by omega) W (hAT.but (But.of_below (S := fun _ => False) hW) (fun k h => h.elim)) (by omega) (by omega) (by omega) (by omega) hBf (by omega) (fun k hk => by unfold SKr at hk; omega))
    (fun h k => h.trans k (fun i hi => .inl hi)) (fun W r o' h => ⟨rfl, rfl, rfl, by simp, fun k hk hn => World.putObj_heap_other (fun e => hn (by unfold SKr; omega))⟩) (fun _ => rfl)
    (fun j => OwnFrom.and (own_pure _) (ram_own (by omega) (by omega))) (fun j => OwnFrom.and (ram_own (by omega) (by omega)) (own_pure _)) (fun j => ram_own (by omega) (by omega))
    (fun _ j W => RunI w B c m most j W ∧ ((manyN c m j : Nat) : Int) < most)
    (fun _ cd j W => cd = .exit 0 ∧ RunI w B c m most j W ∧ freeN c m j ∧ most = (j : Int))
    (fun C j X Y row hs hg hr => ⟨hs.1.grown hg hB (fun r e => by rcases hr r e with (h | h) | h; exact .inr (by omega); exact .inl h; exact .inr (by have := h.1; omega)), hs.2⟩)
    (fun C cd j X Y row hs hg hr => ⟨hs.1, hs.2.1.grown hg hB (fun r e => by rcases hr r e with (h | h) | h; exact .inr (by omega); exact .inl h; exact .inr (by have := h.1; omega)), hs.2.2⟩)
    (fun C => ⟨hRI, by show ((if (0 : Int) = 0 then 0 else 0 : Nat) : Int) < most; simp; omega⟩)
    (fun C j W hC h => by
      have h2 := h.2
      unfold manyN at h2
      split at h2 <;> omega)
    (fun j a' W => ∃ gn, a' = { tmps := #[.agg c.arr, .iface 31 (.pointer (some ⟨g, 0, none⟩)), .int .i64 most, .pointer (some ⟨w.heap.size, 0, none⟩), undef, .pointer (some ⟨w.heap.size + 1, 0, none⟩), .pointer (some ⟨w.heap.size + 1 + 1, 0, none⟩), .int .i64 0, .int .i64 0, .pointer (some ⟨w.heap.size + 1 + 1 + 1, 0, none⟩), .pointer (some ⟨w.heap.size + 1 + 1 + 1 + 1, 0, none⟩), .pointer (some ⟨gn, 0, none⟩), .int .i64 (stN c m (j + 1)).2.1, .int .i64 most, .bool false, undef, .agg c.arr, .iface 31 (.pointer (some ⟨g, 0, none⟩)), .func (.func 47) #[] #[.pointer (some ⟨w.heap.size + 1 + 1 + 1 + 1 + 1, 0, none⟩), .pointer (some ⟨w.heap.size + 1 + 1 + 1 + 1 + 1 + 1, 0, none⟩)], .agg (stN c m (j + 1)).1.arr, .int .i64 (stN c m (j + 1)).2.1, undef, undef, undef, undef, undef, undef, undef, undef, undef, undef, undef, undef], defers := [] } ∧ w.heap.size + 9 ≤ gn ∧ CpAt W gn (stN c m (j + 1)).1)
    (fun j a' _ X Y row hs hg hr => by
      obtain ⟨gn, h1, h2, h3⟩ := hs
      refine ⟨gn, h1, h2, h3.grown hg (fun e => ?_)⟩
      obtain ⟨_, o, ho, hoc⟩ := hr gn e.symm
      rw [show X.heap[gn]? = _ from h3] at ho
      cases ho; cases hoc)
    ?assign ?body ?done ?stop
  case assign =>
    rintro l C j W K hC1 hC2 ⟨hi, hlt⟩ hmm hK
    have HK := Lib.hid hK
    have HI := Lib.hid hi
    have HMM := Lib.hid hmm
    have hWs : w.heap.size + 9 ≤ W.heap.size := by omega
    have HLT := Lib.hid hlt
    clear hi hmm hK hlt
    simp only [encN]
    unfold Cp.arr
    gi_wp2
    exact HK.out _ _ ⟨by simp, fun k o _ ho _ => (Below.heap_alloc _ _ _ (Array.getElem?_eq_some_iff.1 ho).1).trans ho⟩ ((But.refl _ W).alloc _) ⟨HI.out.grown (World.grownBy_alloc W _ none) hB (fun r e => by cases e), HLT.out⟩ ⟨HMM.out.1, HMM.out.2.below (bl_new (Below.refl _ W) _)⟩ ⟨W.heap.size, rfl, hWs, Blk.new W _ _⟩
  case body =>
    rintro l C j a' W hl1 hl2 hC1 hC2 ⟨hi, hlt⟩ ⟨hf, hm1'⟩ ⟨gn, rfl, hgn, hcn⟩ hN
    have HI := Lib.hid hi
    have HF := Lib.hid hf
    have HMM := Lib.hid hm1'
    have HHN := Lib.hid hcn
    have hmany : manyN c m j = j := by
      unfold manyN
      split
      · rfl
      · rename_i h
        cases j with
        | zero => rfl
        | succ i => exact absurd (hf i (by omega)) h
    have hn0 := hi.nn
    rw [hmany] at hn0 hlt
    have HN0 := Lib.hid hn0
    obtain ⟨q, hq1, hq2, hq3, hq4⟩ := HMost.out
    have HQ := Lib.hid hq1
    obtain ⟨y0, y1, y2, y3, y4, y5, y6, y7, y8, y9, y10, ylt⟩ := cp_all hcn
    obtain ⟨x0, x1, x2, x3, x4, x5, x6, x7, x8, x9, x10, xlt⟩ := cp_all hi.cc
    have bf0 := hi.cc.frozen 0
    have bf1 := hi.cc.frozen 1
    have bf2 := hi.cc.frozen 2
    have bf3 := hi.cc.frozen 3
    have bf4 := hi.cc.frozen 4
    have bf5 := hi.cc.frozen 5
    have bf6 := hi.cc.frozen 6
    have bf7 := hi.cc.frozen 7
    have bf8 := hi.cc.frozen 8
    have bf9 := hi.cc.frozen 9
    have bf10 := hi.cc.frozen 10
    have n0 := hn0.cell 0
    have nf := hn0.frozen 0
    have nlt := hn0.lt
    have e0 := hi.e.cell 0
    have ef := hi.e.frozen 0
    have elt := hi.e.lt
    have k0 := hi.k.cell 0
    have klt := hi.k.lt
    simp only [List.getElem?_toArray, List.getElem?_cons_zero] at n0 e0 k0
    clear hi hf hm1' hcn hn0 hmany
    by_cases ht : (stN c m (j + 1)).2.1 = 0
    · have HT := Lib.hid ht
      rw [ht]
      dsimp only
      have HFIN := Lib.hid (fun W' (h1 : But (fun k => k = w.heap.size ∨ k = w.heap.size + 3 ∨ k = w.heap.size + 4) W W') (h2 : CpAt W' w.heap.size (stN c m (j + 1)).1) (h3 : Blk W' (w.heap.size + 3) 3 #[.int .i64 ((j : Int) + 1)]) (h4 : Blk W' (w.heap.size + 4) 3 #[.int .i64 0]) => show RunI w B c m most (j + 1) W' from
        HI.out.next h1 h2 (by
          have e : ((manyN c m (j + 1) : Nat) : Int) = (j : Int) + 1 := by
            unfold manyN
            rw [if_pos HT.out]; omega
          rw [e]; exact h3) (by rw [HT.out]; exact h4) HF.out)
      have HFR := Lib.hid (show freeN c m (j + 1) from fun i hi => by
        by_cases hij : i < j
        · exact HF.out i hij
        · obtain rfl : i = j := by omega
          exact HT.out)
      have HMY := Lib.hid (show ((manyN c m (j + 1) : Nat) : Int) = (j : Int) + 1 from by
        unfold manyN
        rw [if_pos HT.out]; omega)
      gi_wp2_with (fail)
      all_goals
        have hbt := ((set11_but (S := (fun k => k = w.heap.size ∨ k = w.heap.size + 3 ∨ k = w.heap.size + 4)) (g := w.heap.size) (But.refl _ W) (.inl (.inl rfl)) (.int .u32 ((stN c m (j + 1)).1.r 0)) (.int .u32 ((stN c m (j + 1)).1.r 1)) (.int .u32 ((stN c m (j + 1)).1.r 2)) (.int .u32 ((stN c m (j + 1)).1.r 3)) (.int .u32 ((stN c m (j + 1)).1.r 4)) (.int .u32 ((stN c m (j + 1)).1.r 5)) (.int .u32 ((stN c m (j + 1)).1.r 6)) (.int .u32 ((stN c m (j + 1)).1.r 7)) (.complex .f64 ((stN c m (j + 1)).1.z 0).1 ((stN c m (j + 1)).1.z 0).2) (.complex .f64 ((stN c m (j + 1)).1.z 1).1 ((stN c m (j + 1)).1.z 1).2) (.int .u32 (stN c m (j + 1)).1.pc)).setCell (p := ⟨w.heap.size + 1 + 1 + 1 + 1, 0, none⟩) (.inl (.inr (.inr rfl))) (.int .i64 0)).setCell (p := ⟨w.heap.size + 1 + 1 + 1, 0, none⟩) (.inl (.inr (.inl rfl))) (.int .i64 ((j : Int) + 1))
        have hc2 := ((set11_blk HI.out.cc (.int .u32 ((stN c m (j + 1)).1.r 0)) (.int .u32 ((stN c m (j + 1)).1.r 1)) (.int .u32 ((stN c m (j + 1)).1.r 2)) (.int .u32 ((stN c m (j + 1)).1.r 3)) (.int .u32 ((stN c m (j + 1)).1.r 4)) (.int .u32 ((stN c m (j + 1)).1.r 5)) (.int .u32 ((stN c m (j + 1)).1.r 6)) (.int .u32 ((stN c m (j + 1)).1.r 7)) (.complex .f64 ((stN c m (j + 1)).1.z 0).1 ((stN c m (j + 1)).1.z 0).2) (.complex .f64 ((stN c m (j + 1)).1.z 1).1 ((stN c m (j + 1)).1.z 1).2) (.int .u32 (stN c m (j + 1)).1.pc)).far (p := ⟨w.heap.size + 1 + 1 + 1 + 1, 0, none⟩) (by dsimp only; omega) (.int .i64 0)).far (p := ⟨w.heap.size + 1 + 1 + 1, 0, none⟩) (by dsimp only; omega) (.int .i64 ((j : Int) + 1))
        have he2 := (box1 ((HI.out.e.but (set11_but (S := fun k => k = w.heap.size) (g := w.heap.size) (But.refl _ W) (.inl rfl) (.int .u32 ((stN c m (j + 1)).1.r 0)) (.int .u32 ((stN c m (j + 1)).1.r 1)) (.int .u32 ((stN c m (j + 1)).1.r 2)) (.int .u32 ((stN c m (j + 1)).1.r 3)) (.int .u32 ((stN c m (j + 1)).1.r 4)) (.int .u32 ((stN c m (j + 1)).1.r 5)) (.int .u32 ((stN c m (j + 1)).1.r 6)) (.int .u32 ((stN c m (j + 1)).1.r 7)) (.complex .f64 ((stN c m (j + 1)).1.z 0).1 ((stN c m (j + 1)).1.z 0).2) (.complex .f64 ((stN c m (j + 1)).1.z 1).1 ((stN c m (j + 1)).1.z 1).2) (.int .u32 (stN c m (j + 1)).1.pc)) (by omega))) (.int .i64 0)).far (p := ⟨w.heap.size + 1 + 1 + 1, 0, none⟩) (by dsimp only; omega) (.int .i64 ((j : Int) + 1))
        have hn2 := box1 ((HN0.out.but (set11_but (S := fun k => k = w.heap.size) (g := w.heap.size) (But.refl _ W) (.inl rfl) (.int .u32 ((stN c m (j + 1)).1.r 0)) (.int .u32 ((stN c m (j + 1)).1.r 1)) (.int .u32 ((stN c m (j + 1)).1.r 2)) (.int .u32 ((stN c m (j + 1)).1.r 3)) (.int .u32 ((stN c m (j + 1)).1.r 4)) (.int .u32 ((stN c m (j + 1)).1.r 5)) (.int .u32 ((stN c m (j + 1)).1.r 6)) (.int .u32 ((stN c m (j + 1)).1.r 7)) (.complex .f64 ((stN c m (j + 1)).1.z 0).1 ((stN c m (j + 1)).1.z 0).2) (.complex .f64 ((stN c m (j + 1)).1.z 1).1 ((stN c m (j + 1)).1.z 1).2) (.int .u32 (stN c m (j + 1)).1.pc)) (by omega)).far (p := ⟨w.heap.size + 1 + 1 + 1 + 1, 0, none⟩) (by dsimp only; omega) (.int .i64 0)) (.int .i64 ((j : Int) + 1))
        have hri := HFIN.out _ hbt hc2 hn2 he2
        have hkp := hbt.mono (S' := SKr w.heap.size) (fun k hk => by unfold SKr; omega)
        have hkf := keeps_but (n0 := V.heap.size) hbt (fun k hk => by omega)
      · exact ⟨hkf, hkp, rfl, hri, HFR.out, by omega⟩
      · exact ⟨hkf, hkp, hri, by rw [HMY.out]; omega⟩
    · have htb : ((stN c m (j + 1)).2.1 == 0) = false := by simpa using ht
      have HT := Lib.hid ht
      clear ht
      dsimp only
      obtain ⟨t1, ht1⟩ : ∃ t1, t1 = (stN c m (j + 1)).2.1 := ⟨_, rfl⟩
      rw [← ht1] at htb ⊢
      have HT1 := Lib.hid ht1
      clear ht1
      have HMY := Lib.hid (show ((manyN c m (j + 1) : Nat) : Int) = (j : Int) from by
        unfold manyN
        rw [if_neg HT.out]; omega)
      have HFIN := Lib.hid (fun W' (h1 : But (fun k => k = w.heap.size ∨ k = w.heap.size + 3 ∨ k = w.heap.size + 4) W W') (h2 : CpAt W' w.heap.size (stN c m (j + 1)).1) (h3 : Blk W' (w.heap.size + 3) 3 #[.int .i64 (j : Int)]) (h4 : Blk W' (w.heap.size + 4) 3 #[.int .i64 t1]) => show RunI w B c m most (j + 1) W' from
        HI.out.next h1 h2 (by rw [HMY.out]; exact h3) (by rw [← HT1.out]; exact h4) HF.out)
      gi_wp2_with (fail)
      have hbt := (set11_but (S := (fun k => k = w.heap.size ∨ k = w.heap.size + 3 ∨ k = w.heap.size + 4)) (g := w.heap.size) (But.refl _ W) (.inl (.inl rfl)) (.int .u32 ((stN c m (j + 1)).1.r 0)) (.int .u32 ((stN c m (j + 1)).1.r 1)) (.int .u32 ((stN c m (j + 1)).1.r 2)) (.int .u32 ((stN c m (j + 1)).1.r 3)) (.int .u32 ((stN c m (j + 1)).1.r 4)) (.int .u32 ((stN c m (j + 1)).1.r 5)) (.int .u32 ((stN c m (j + 1)).1.r 6)) (.int .u32 ((stN c m (j + 1)).1.r 7)) (.complex .f64 ((stN c m (j + 1)).1.z 0).1 ((stN c m (j + 1)).1.z 0).2) (.complex .f64 ((stN c m (j + 1)).1.z 1).1 ((stN c m (j + 1)).1.z 1).2) (.int .u32 (stN c m (j + 1)).1.pc)).setCell (p := ⟨w.heap.size + 1 + 1 + 1 + 1, 0, none⟩) (.inl (.inr (.inr rfl))) (.int .i64 t1)
      have hc2 := (set11_blk HI.out.cc (.int .u32 ((stN c m (j + 1)).1.r 0)) (.int .u32 ((stN c m (j + 1)).1.r 1)) (.int .u32 ((stN c m (j + 1)).1.r 2)) (.int .u32 ((stN c m (j + 1)).1.r 3)) (.int .u32 ((stN c m (j + 1)).1.r 4)) (.int .u32 ((stN c m (j + 1)).1.r 5)) (.int .u32 ((stN c m (j + 1)).1.r 6)) (.int .u32 ((stN c m (j + 1)).1.r 7)) (.complex .f64 ((stN c m (j + 1)).1.z 0).1 ((stN c m (j + 1)).1.z 0).2) (.complex .f64 ((stN c m (j + 1)).1.z 1).1 ((stN c m (j + 1)).1.z 1).2) (.int .u32 (stN c m (j + 1)).1.pc)).far (p := ⟨w.heap.size + 1 + 1 + 1 + 1, 0, none⟩) (by dsimp only; omega) (.int .i64 t1)
      have he2 := box1 ((HI.out.e.but (set11_but (S := fun k => k = w.heap.size) (g := w.heap.size) (But.refl _ W) (.inl rfl) (.int .u32 ((stN c m (j + 1)).1.r 0)) (.int .u32 ((stN c m (j + 1)).1.r 1)) (.int .u32 ((stN c m (j + 1)).1.r 2)) (.int .u32 ((stN c m (j + 1)).1.r 3)) (.int .u32 ((stN c m (j + 1)).1.r 4)) (.int .u32 ((stN c m (j + 1)).1.r 5)) (.int .u32 ((stN c m (j + 1)).1.r 6)) (.int .u32 ((stN c m (j + 1)).1.r 7)) (.complex .f64 ((stN c m (j + 1)).1.z 0).1 ((stN c m (j + 1)).1.z 0).2) (.complex .f64 ((stN c m (j + 1)).1.z 1).1 ((stN c m (j + 1)).1.z 1).2) (.int .u32 (stN c m (j + 1)).1.pc)) (by omega))) (.int .i64 t1)
      have hn2 := (HN0.out.but (set11_but (S := fun k => k = w.heap.size) (g := w.heap.size) (But.refl _ W) (.inl rfl) (.int .u32 ((stN c m (j + 1)).1.r 0)) (.int .u32 ((stN c m (j + 1)).1.r 1)) (.int .u32 ((stN c m (j + 1)).1.r 2)) (.int .u32 ((stN c m (j + 1)).1.r 3)) (.int .u32 ((stN c m (j + 1)).1.r 4)) (.int .u32 ((stN c m (j + 1)).1.r 5)) (.int .u32 ((stN c m (j + 1)).1.r 6)) (.int .u32 ((stN c m (j + 1)).1.r 7)) (.complex .f64 ((stN c m (j + 1)).1.z 0).1 ((stN c m (j + 1)).1.z 0).2) (.complex .f64 ((stN c m (j + 1)).1.z 1).1 ((stN c m (j + 1)).1.z 1).2) (.int .u32 (stN c m (j + 1)).1.pc)) (by omega)).far (p := ⟨w.heap.size + 1 + 1 + 1 + 1, 0, none⟩) (by dsimp only; omega) (.int .i64 t1)
      have hri := HFIN.out _ hbt hc2 hn2 he2
      have hkp := hbt.mono (S' := SKr w.heap.size) (fun k hk => by unfold SKr; omega)
      have hkf := keeps_but (n0 := V.heap.size) hbt (fun k hk => by omega)
      exact ⟨hkf, hkp, hri, by rw [HMY.out]; omega⟩
  case done =>
    rintro D C j W hD hC ⟨hm, i, rfl, hf, ht⟩ ⟨hi, hlt⟩ hDf
    obtain ⟨q, hq1, hq2, hq3, hq4⟩ := HMost.out
    have hmany : manyN c m (i + 1) = i := by
      unfold manyN
      rw [if_neg ht]; rfl
    have hnn := hi.nn
    rw [hmany] at hlt hnn
    have HRUN := Lib.hid (run_ends_trap (most := most.toNat) hf ht (by omega))
    have HI := Lib.hid hi
    have HM1 := Lib.hid hm
    have HD := Lib.hid hDf
    obtain ⟨x0, x1, x2, x3, x4, x5, x6, x7, x8, x9, x10, xlt⟩ := cp_all hi.cc
    obtain ⟨r0, r1, r2, r3, r4, r5, r6, r7, r8, r9, r10, rlt⟩ := row11 (show Blk W (w.heap.size + 1 + 1) 28 #[.int .u32 0, .int .u32 0, .int .u32 0, .int .u32 0, .int .u32 0, .int .u32 0, .int .u32 0, .int .u32 0, .complex .f64 0 0, .complex .f64 0 0, .int .u32 0] from hi.r)
    have hrr : Blk W (w.heap.size + 1 + 1) 28 c0A := hi.r
    have rf0 := hrr.frozen 0
    have rf1 := hrr.frozen 1
    have rf2 := hrr.frozen 2
    have rf3 := hrr.frozen 3
    have rf4 := hrr.frozen 4
    have rf5 := hrr.frozen 5
    have rf6 := hrr.frozen 6
    have rf7 := hrr.frozen 7
    have rf8 := hrr.frozen 8
    have rf9 := hrr.frozen 9
    have rf10 := hrr.frozen 10
    have n0 := hnn.cell 0
    have nlt := hnn.lt
    have e0 := hi.e.cell 0
    have elt := hi.e.lt
    simp only [List.getElem?_toArray, List.getElem?_cons_zero] at n0 e0
    clear hm hi hf hnn hDf hrr hmany
    gi_wp2
    gi_region
    have hbt := (set11_but (S := fun k => k = w.heap.size + 1 + 1) (g := w.heap.size + 1 + 1) (But.refl _ W) (.inl rfl) (.int .u32 ((stN c m (i + 1)).1.r 0)) (.int .u32 ((stN c m (i + 1)).1.r 1)) (.int .u32 ((stN c m (i + 1)).1.r 2)) (.int .u32 ((stN c m (i + 1)).1.r 3)) (.int .u32 ((stN c m (i + 1)).1.r 4)) (.int .u32 ((stN c m (i + 1)).1.r 5)) (.int .u32 ((stN c m (i + 1)).1.r 6)) (.int .u32 ((stN c m (i + 1)).1.r 7)) (.complex .f64 ((stN c m (i + 1)).1.z 0).1 ((stN c m (i + 1)).1.z 0).2) (.complex .f64 ((stN c m (i + 1)).1.z 1).1 ((stN c m (i + 1)).1.z 1).2) (.int .u32 (stN c m (i + 1)).1.pc)).drew
    have hc9 : CpAt ((((((((((((W.setCell ⟨w.heap.size + 1 + 1, 0, none⟩ (.int .u32 ((stN c m (i + 1)).1.r 0))).setCell ⟨w.heap.size + 1 + 1, 1, none⟩ (.int .u32 ((stN c m (i + 1)).1.r 1))).setCell ⟨w.heap.size + 1 + 1, 2, none⟩ (.int .u32 ((stN c m (i + 1)).1.r 2))).setCell ⟨w.heap.size + 1 + 1, 3, none⟩ (.int .u32 ((stN c m (i + 1)).1.r 3))).setCell ⟨w.heap.size + 1 + 1, 4, none⟩ (.int .u32 ((stN c m (i + 1)).1.r 4))).setCell ⟨w.heap.size + 1 + 1, 5, none⟩ (.int .u32 ((stN c m (i + 1)).1.r 5))).setCell ⟨w.heap.size + 1 + 1, 6, none⟩ (.int .u32 ((stN c m (i + 1)).1.r 6))).setCell ⟨w.heap.size + 1 + 1, 7, none⟩ (.int .u32 ((stN c m (i + 1)).1.r 7))).setCell ⟨w.heap.size + 1 + 1, 8, none⟩ (.complex .f64 ((stN c m (i + 1)).1.z 0).1 ((stN c m (i + 1)).1.z 0).2)).setCell ⟨w.heap.size + 1 + 1, 9, none⟩ (.complex .f64 ((stN c m (i + 1)).1.z 1).1 ((stN c m (i + 1)).1.z 1).2)).setCell ⟨w.heap.size + 1 + 1, 10, none⟩ (.int .u32 (stN c m (i + 1)).1.pc)).drew) (w.heap.size + 1 + 1) (stN c m (i + 1)).1 := (set11_blk (show Blk W (w.heap.size + 1 + 1) 28 #[.int .u32 0, .int .u32 0, .int .u32 0, .int .u32 0, .int .u32 0, .int .u32 0, .int .u32 0, .int .u32 0, .complex .f64 0 0, .complex .f64 0 0, .int .u32 0] from HI.out.r) (.int .u32 ((stN c m (i + 1)).1.r 0)) (.int .u32 ((stN c m (i + 1)).1.r 1)) (.int .u32 ((stN c m (i + 1)).1.r 2)) (.int .u32 ((stN c m (i + 1)).1.r 3)) (.int .u32 ((stN c m (i + 1)).1.r 4)) (.int .u32 ((stN c m (i + 1)).1.r 5)) (.int .u32 ((stN c m (i + 1)).1.r 6)) (.int .u32 ((stN c m (i + 1)).1.r 7)) (.complex .f64 ((stN c m (i + 1)).1.z 0).1 ((stN c m (i + 1)).1.z 0).2) (.complex .f64 ((stN c m (i + 1)).1.z 1).1 ((stN c m (i + 1)).1.z 1).2) (.int .u32 (stN c m (i + 1)).1.pc)).drew
    have hWD : D < W.heap.size := (Array.getElem?_eq_some_iff.1 HD.out).1
    have hK9 := (hbt.block D hWD (by omega)).trans HD.out
    have hm9 := HM1.out.but hbt (by omega) (by omega)
    have hb9 := HI.out.b.trans hbt (fun i hi => by omega)
    generalize (((((((((((W.setCell ⟨w.heap.size + 1 + 1, 0, none⟩ (.int .u32 ((stN c m (i + 1)).1.r 0))).setCell ⟨w.heap.size + 1 + 1, 1, none⟩ (.int .u32 ((stN c m (i + 1)).1.r 1))).setCell ⟨w.heap.size + 1 + 1, 2, none⟩ (.int .u32 ((stN c m (i + 1)).1.r 2))).setCell ⟨w.heap.size + 1 + 1, 3, none⟩ (.int .u32 ((stN c m (i + 1)).1.r 3))).setCell ⟨w.heap.size + 1 + 1, 4, none⟩ (.int .u32 ((stN c m (i + 1)).1.r 4))).setCell ⟨w.heap.size + 1 + 1, 5, none⟩ (.int .u32 ((stN c m (i + 1)).1.r 5))).setCell ⟨w.heap.size + 1 + 1, 6, none⟩ (.int .u32 ((stN c m (i + 1)).1.r 6))).setCell ⟨w.heap.size + 1 + 1, 7, none⟩ (.int .u32 ((stN c m (i + 1)).1.r 7))).setCell ⟨w.heap.size + 1 + 1, 8, none⟩ (.complex .f64 ((stN c m (i + 1)).1.z 0).1 ((stN c m (i + 1)).1.z 0).2)).setCell ⟨w.heap.size + 1 + 1, 9, none⟩ (.complex .f64 ((stN c m (i + 1)).1.z 1).1 ((stN c m (i + 1)).1.z 1).2)).setCell ⟨w.heap.size + 1 + 1, 10, none⟩ (.int .u32 (stN c m (i + 1)).1.pc)).drew = W9 at *
    gi_wp2
    refine ⟨by simp, .inl ⟨_, _, rfl, run_takeDeferred hK9, ?_⟩⟩
    have hpo := grown_but (grownBy_putObj' W9 D (.deferred none))
    rw [HRUN.out]
    exact ⟨_, results_row_tmp2 Tryd.results9 _ rfl (hc9.but hpo (by simp; omega)) Tryd.underlying28 rfl (by kernel_rfl), rfl, hm9.but hpo (by simp; omega) (by simp; omega), hb9.trans hpo (fun i hi => .inr (by simp at hi; omega))⟩
  case stop =>
    rintro D C cd j W hD hC hm ⟨rfl, hi, hf, hmj⟩ hDf
    obtain ⟨q, hq1, hq2, hq3, hq4⟩ := HMost.out
    have hz : (stN c m j).2.1 = 0 := by
      cases j with
      | zero => rfl
      | succ i => exact hf i (by omega)
    have hmany : manyN c m j = j := by
      unfold manyN
      rw [if_pos hz]
    have hnn := hi.nn
    have hee := hi.e
    rw [hmany] at hnn
    rw [hz] at hee
    have hqj : q = j := by omega
    have HRUN := Lib.hid (show runP c m most.toNat = ((stN c m j).1, j, 0, (stN c m j).2.2) from by rw [hq2, hqj]; exact run_ends_most hf)
    have HI := Lib.hid hi
    have HM1 := Lib.hid hm
    have HD := Lib.hid hDf
    obtain ⟨x0, x1, x2, x3, x4, x5, x6, x7, x8, x9, x10, xlt⟩ := cp_all hi.cc
    obtain ⟨r0, r1, r2, r3, r4, r5, r6, r7, r8, r9, r10, rlt⟩ := row11 (show Blk W (w.heap.size + 1 + 1) 28 #[.int .u32 0, .int .u32 0, .int .u32 0, .int .u32 0, .int .u32 0, .int .u32 0, .int .u32 0, .int .u32 0, .complex .f64 0 0, .complex .f64 0 0, .int .u32 0] from hi.r)
    have hrr : Blk W (w.heap.size + 1 + 1) 28 c0A := hi.r
    have rf0 := hrr.frozen 0
    have rf1 := hrr.frozen 1
    have rf2 := hrr.frozen 2
    have rf3 := hrr.frozen 3
    have rf4 := hrr.frozen 4
    have rf5 := hrr.frozen 5
    have rf6 := hrr.frozen 6
    have rf7 := hrr.frozen 7
    have rf8 := hrr.frozen 8
    have rf9 := hrr.frozen 9
    have rf10 := hrr.frozen 10
    have n0 := hnn.cell 0
    have nlt := hnn.lt
    have e0 := hee.cell 0
    have elt := hee.lt
    simp only [List.getElem?_toArray, List.getElem?_cons_zero] at n0 e0
    clear hm hi hf hnn hee hDf hrr hmany hz hqj hmj
    gi_wp2
    gi_region
    have hbt := (set11_but (S := fun k => k = w.heap.size + 1 + 1) (g := w.heap.size + 1 + 1) (But.refl _ W) (.inl rfl) (.int .u32 ((stN c m j).1.r 0)) (.int .u32 ((stN c m j).1.r 1)) (.int .u32 ((stN c m j).1.r 2)) (.int .u32 ((stN c m j).1.r 3)) (.int .u32 ((stN c m j).1.r 4)) (.int .u32 ((stN c m j).1.r 5)) (.int .u32 ((stN c m j).1.r 6)) (.int .u32 ((stN c m j).1.r 7)) (.complex .f64 ((stN c m j).1.z 0).1 ((stN c m j).1.z 0).2) (.complex .f64 ((stN c m j).1.z 1).1 ((stN c m j).1.z 1).2) (.int .u32 (stN c m j).1.pc)).drew
    have hc9 : CpAt ((((((((((((W.setCell ⟨w.heap.size + 1 + 1, 0, none⟩ (.int .u32 ((stN c m j).1.r 0))).setCell ⟨w.heap.size + 1 + 1, 1, none⟩ (.int .u32 ((stN c m j).1.r 1))).setCell ⟨w.heap.size + 1 + 1, 2, none⟩ (.int .u32 ((stN c m j).1.r 2))).setCell ⟨w.heap.size + 1 + 1, 3, none⟩ (.int .u32 ((stN c m j).1.r 3))).setCell ⟨w.heap.size + 1 + 1, 4, none⟩ (.int .u32 ((stN c m j).1.r 4))).setCell ⟨w.heap.size + 1 + 1, 5, none⟩ (.int .u32 ((stN c m j).1.r 5))).setCell ⟨w.heap.size + 1 + 1, 6, none⟩ (.int .u32 ((stN c m j).1.r 6))).setCell ⟨w.heap.size + 1 + 1, 7, none⟩ (.int .u32 ((stN c m j).1.r 7))).setCell ⟨w.heap.size + 1 + 1, 8, none⟩ (.complex .f64 ((stN c m j).1.z 0).1 ((stN c m j).1.z 0).2)).setCell ⟨w.heap.size + 1 + 1, 9, none⟩ (.complex .f64 ((stN c m j).1.z 1).1 ((stN c m j).1.z 1).2)).setCell ⟨w.heap.size + 1 + 1, 10, none⟩ (.int .u32 (stN c m j).1.pc)).drew) (w.heap.size + 1 + 1) (stN c m j).1 := (set11_blk (show Blk W (w.heap.size + 1 + 1) 28 #[.int .u32 0, .int .u32 0, .int .u32 0, .int .u32 0, .int .u32 0, .int .u32 0, .int .u32 0, .int .u32 0, .complex .f64 0 0, .complex .f64 0 0, .int .u32 0] from HI.out.r) (.int .u32 ((stN c m j).1.r 0)) (.int .u32 ((stN c m j).1.r 1)) (.int .u32 ((stN c m j).1.r 2)) (.int .u32 ((stN c m j).1.r 3)) (.int .u32 ((stN c m j).1.r 4)) (.int .u32 ((stN c m j).1.r 5)) (.int .u32 ((stN c m j).1.r 6)) (.int .u32 ((stN c m j).1.r 7)) (.complex .f64 ((stN c m j).1.z 0).1 ((stN c m j).1.z 0).2) (.complex .f64 ((stN c m j).1.z 1).1 ((stN c m j).1.z 1).2) (.int .u32 (stN c m j).1.pc)).drew
    have hWD : D < W.heap.size := (Array.getElem?_eq_some_iff.1 HD.out).1
    have hK9 := (hbt.block D hWD (by omega)).trans HD.out
    have hm9 := HM1.out.but hbt (by omega) (by omega)
    have hb9 := HI.out.b.trans hbt (fun i hi => by omega)
    generalize (((((((((((W.setCell ⟨w.heap.size + 1 + 1, 0, none⟩ (.int .u32 ((stN c m j).1.r 0))).setCell ⟨w.heap.size + 1 + 1, 1, none⟩ (.int .u32 ((stN c m j).1.r 1))).setCell ⟨w.heap.size + 1 + 1, 2, none⟩ (.int .u32 ((stN c m j).1.r 2))).setCell ⟨w.heap.size + 1 + 1, 3, none⟩ (.int .u32 ((stN c m j).1.r 3))).setCell ⟨w.heap.size + 1 + 1, 4, none⟩ (.int .u32 ((stN c m j).1.r 4))).setCell ⟨w.heap.size + 1 + 1, 5, none⟩ (.int .u32 ((stN c m j).1.r 5))).setCell ⟨w.heap.size + 1 + 1, 6, none⟩ (.int .u32 ((stN c m j).1.r 6))).setCell ⟨w.heap.size + 1 + 1, 7, none⟩ (.int .u32 ((stN c m j).1.r 7))).setCell ⟨w.heap.size + 1 + 1, 8, none⟩ (.complex .f64 ((stN c m j).1.z 0).1 ((stN c m j).1.z 0).2)).setCell ⟨w.heap.size + 1 + 1, 9, none⟩ (.complex .f64 ((stN c m j).1.z 1).1 ((stN c m j).1.z 1).2)).setCell ⟨w.heap.size + 1 + 1, 10, none⟩ (.int .u32 (stN c m j).1.pc)).drew = W9 at *
    gi_wp2
    refine ⟨by simp, .inl ⟨_, _, rfl, run_takeDeferred hK9, ?_⟩⟩
    have hpo := grown_but (grownBy_putObj' W9 D (.deferred none))
    rw [HRUN.out]
    exact ⟨_, results_row_tmp2 Tryd.results9 _ rfl (hc9.but hpo (by simp; omega)) Tryd.underlying28 rfl (by kernel_rfl), rfl, hm9.but hpo (by simp; omega) (by simp; omega), hb9.trans hpo (fun i hi => .inr (by simp at hi; omega))⟩
end
end Go.Proofs.YtoglmemmdolbmaaDoor
namespace Go.Proofs.YtoglmemmdolbmaaDoor
section
open Go.RowKit Go.Shelf
set_option linter.unusedVariables false
set_option linter.unusedSimpArgs false
attribute [local go_sem] Oper.semAt_some
attribute [local go_sem] run_store_complex
attribute [local irreducible] floatOfInt wz

set_option maxRecDepth 100000 in
set_option maxHeartbeats 16000000 in
theorem run_low {w : World} (g : Nat) (c : Cp) (most : Int) (hm : most < 1) :
    Calls Tryd.prog 9 #[.agg c.arr, .iface 31 (.pointer (some ⟨g, 0, none⟩)), .int .i64 most] w fun e w' => e = .returned (.tuple #[.agg c.arr, .int .i64 0, .int .i64 0]) ∧ Below w.heap.size w w' := by
  have hX := (((Blk.new w 28 c.arr).alloc (.cells #[.int .i64 most] 3)).alloc (.cells c0A 28)).alloc (.cells #[.int .i64 0] 3)
  have hR := (Blk.new ((w.alloc (.cells c.arr 28)).alloc (.cells #[.int .i64 most] 3)) 28 c0A).alloc (.cells #[.int .i64 0] 3)
  simp only [World.size_alloc] at hR
  have HB0 := Lib.hid (bl_new (bl_new (bl_new (bl_new (Below.refl w.heap.size w) (.cells c.arr 28)) (.cells #[.int .i64 most] 3)) (.cells c0A 28)) (.cells #[.int .i64 0] 3))
  have HR := Lib.hid hR
  obtain ⟨x0, x1, x2, x3, x4, x5, x6, x7, x8, x9, x10, xlt⟩ := cp_all hX
  obtain ⟨r0, r1, r2, r3, r4, r5, r6, r7, r8, r9, r10, rlt⟩ := row11 hR
  have rf0 := hR.frozen 0
  have rf1 := hR.frozen 1
  have rf2 := hR.frozen 2
  have rf3 := hR.frozen 3
  have rf4 := hR.frozen 4
  have rf5 := hR.frozen 5
  have rf6 := hR.frozen 6
  have rf7 := hR.frozen 7
  have rf8 := hR.frozen 8
  have rf9 := hR.frozen 9
  have rf10 := hR.frozen 10
  clear hX hR
  unfold c0A at *
  go_enter Tryd.func9, Tryd.ntmps9
  go_wp2_with (fail)
  refine wp_scope_straight ?_
  go_upto_region 3 with (fail)
  generalize (((w.alloc (.cells c.arr 28)).alloc (.cells #[.int .i64 most] 3)).alloc (.cells #[.int .u32 0, .int .u32 0, .int .u32 0, .int .u32 0, .int .u32 0, .int .u32 0, .int .u32 0, .int .u32 0, .complex .f64 0 0, .complex .f64 0 0, .int .u32 0] 28)).alloc (.cells #[.int .i64 0] 3) = W4 at *
  go_wp2
  have hbt := set11_but (S := fun _ => False) (g := w.heap.size + 1 + 1) (But.of_below HB0.out) (.inr (by omega)) (.int .u32 (c.r 0)) (.int .u32 (c.r 1)) (.int .u32 (c.r 2)) (.int .u32 (c.r 3)) (.int .u32 (c.r 4)) (.int .u32 (c.r 5)) (.int .u32 (c.r 6)) (.int .u32 (c.r 7)) (.complex .f64 (c.z 0).1 (c.z 0).2) (.complex .f64 (c.z 1).1 (c.z 1).2) (.int .u32 c.pc)
  unfold Exit.noGoto
  dsimp only
  exact bodyPost_ret (results_row_tmp2 Tryd.results9 _ rfl (set11_blk HR.out (.int .u32 (c.r 0)) (.int .u32 (c.r 1)) (.int .u32 (c.r 2)) (.int .u32 (c.r 3)) (.int .u32 (c.r 4)) (.int .u32 (c.r 5)) (.int .u32 (c.r 6)) (.int .u32 (c.r 7)) (.complex .f64 (c.z 0).1 (c.z 0).2) (.complex .f64 (c.z 1).1 (c.z 1).2) (.int .u32 c.pc)) Tryd.underlying28 rfl (by kernel_rfl)) rfl ⟨rfl, hbt.below (fun _ h => h.elim) (Nat.le_refl _)⟩
theorem run_any {w : World} (hL : I.Laid w) {g : Nat} {A : Option Addr} {B cap : Nat} {m : List Int} (hM : RamAt w g A B cap m) (hB : B < w.heap.size) (hBf : B ≠ 0) (c : Cp) (hc : c.Ok) (most : Int) (hm1 : most ≤ 9223372036854775807) :
    Calls Tryd.prog 9 #[.agg c.arr, .iface 31 (.pointer (some ⟨g, 0, none⟩)), .int .i64 most] w fun e w' =>
      e = .returned (.tuple #[.agg (runP c m most.toNat).1.arr, .int .i64 ((runP c m most.toNat).2.1 : Nat), .int .i64 (runP c m most.toNat).2.2.1]) ∧ RamAt w' g A B cap (runP c m most.toNat).2.2.2 ∧ But (fun k => k = B) w w' := by
  by_cases hm0 : 1 ≤ most
  · exact callsIn_wide.1 (core_in 8 (by omega) hL hM hB hBf c hc most hm0 hm1)
  · have h0 : most.toNat = 0 := by omega
    rw [h0]
    exact (run_low g c most (by omega)).mono fun e w' h => ⟨h.1, hM.below h.2, But.of_below h.2⟩
end
end Go.Proofs.YtoglmemmdolbmaaDoor
