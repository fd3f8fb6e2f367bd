/-
  What the laws CoreSteps and CoreRuns keep: two Cpus, a memory, and bytes, each in blocks of its own. Condition: none.
-/
import Derived.Test.YtoglmemmdolbmaaDoorCoT0
import Derived.Test.YtoglmemmdolbmaaDoorCrA
namespace Go.Proofs.YtoglmemmdolbmaaDoor
open Go.RowKit Go.Shelf
set_option linter.unusedVariables false
set_option linter.unusedSimpArgs false
attribute [local go_sem] Oper.semAt_some
attribute [local go_sem] run_store_complex
attribute [local irreducible] floatOfInt wz


structure SI (w : World) (gc gd g Bk ck Bl cl N : Nat) (c d : Cp) (mm ml : List Int) (W : World) : Prop where
  cc : CpAt W gc c
  dd : CpAt W gd d
  m : RamAt W g (some ⟨Bk, 0, none⟩) Bk ck mm
  l : ByIn W (some ⟨Bl, 0, none⟩) Bl cl ml
  lm : mm.length = N
  ll : ml.length = N
  zk : Bk < W.heap.size
  zl : Bl < W.heap.size
  b : Below w.heap.size w W
structure Dj (w : World) (gc gd g Bk Bl : Nat) : Prop where
  n1 : gc ≠ gd
  n2 : gc ≠ g
  n3 : gc ≠ Bk
  n4 : gc ≠ Bl
  n5 : gd ≠ g
  n6 : gd ≠ Bk
  n7 : gd ≠ Bl
  n8 : g ≠ Bk
  n9 : g ≠ Bl
  nA : Bk ≠ Bl
  u1 : w.heap.size ≤ gc
  u2 : w.heap.size ≤ gd
  u3 : w.heap.size ≤ g
  u4 : w.heap.size ≤ Bk
  u5 : w.heap.size ≤ Bl
variable {w : World} {gc gd g Bk ck Bl cl N : Nat} {c d : Cp} {mm ml : List Int} {W W' : World}
theorem SI.below (h : SI w gc gd g Bk ck Bl cl N c d mm ml W) (hb : Below W.heap.size W W') : SI w gc gd g Bk ck Bl cl N c d mm ml W' :=
  ⟨h.cc.below hb h.cc.lt, h.dd.below hb h.dd.lt, h.m.below hb, h.l.below hb, h.lm, h.ll, Nat.lt_of_lt_of_le h.zk hb.size, Nat.lt_of_lt_of_le h.zl hb.size, h.b.trans (hb.mono h.b.size)⟩
theorem SI.stepM (h : SI w gc gd g Bk ck Bl cl N c d mm ml W) (D : Dj w gc gd g Bk Bl) {m' : List Int} (hm : RamAt W' g (some ⟨Bk, 0, none⟩) Bk ck m') (hl : m'.length = N) (hb : But (fun k => k = Bk) W W') : SI w gc gd g Bk ck Bl cl N c d m' ml W' :=
  ⟨h.cc.but hb D.n3, h.dd.but hb D.n6, hm, h.l.but hb (fun e : Bl = Bk => D.nA e.symm), hl, h.ll, Nat.lt_of_lt_of_le h.zk hb.size, Nat.lt_of_lt_of_le h.zl hb.size, h.b.trans (hb.below (B := w.heap.size) (fun k hk => by subst hk; exact D.u4) h.b.size)⟩
theorem SI.stepL (h : SI w gc gd g Bk ck Bl cl N c d mm ml W) (D : Dj w gc gd g Bk Bl) {m' : List Int} (hm : ByIn W' (some ⟨Bl, 0, none⟩) Bl cl m') (hl : m'.length = N) (hb : But (fun k => k = Bl) W W') : SI w gc gd g Bk ck Bl cl N c d mm m' W' :=
  ⟨h.cc.but hb D.n4, h.dd.but hb D.n7, h.m.but hb D.n9 D.nA, hm, h.lm, hl, Nat.lt_of_lt_of_le h.zk hb.size, Nat.lt_of_lt_of_le h.zl hb.size, h.b.trans (hb.below (B := w.heap.size) (fun k hk => by subst hk; exact D.u5) h.b.size)⟩
theorem SI.putC (h : SI w gc gd g Bk ck Bl cl N c d mm ml W) (D : Dj w gc gd g Bk Bl) {n : Cp} (hc : CpAt W' gc n) (hb : But (fun k => k = gc) W W') : SI w gc gd g Bk ck Bl cl N n d mm ml W' :=
  ⟨hc, h.dd.but hb (fun e : gd = gc => D.n1 e.symm), h.m.but hb (fun e : g = gc => D.n2 e.symm) (fun e : Bk = gc => D.n3 e.symm), h.l.but hb (fun e : Bl = gc => D.n4 e.symm), h.lm, h.ll, Nat.lt_of_lt_of_le h.zk hb.size, Nat.lt_of_lt_of_le h.zl hb.size, h.b.trans (hb.below (B := w.heap.size) (fun k hk => by subst hk; exact D.u1) h.b.size)⟩
theorem SI.putD (h : SI w gc gd g Bk ck Bl cl N c d mm ml W) (D : Dj w gc gd g Bk Bl) {n : Cp} (hc : CpAt W' gd n) (hb : But (fun k => k = gd) W W') : SI w gc gd g Bk ck Bl cl N c n mm ml W' :=
  ⟨h.cc.but hb D.n1, hc, h.m.but hb (fun e : g = gd => D.n5 e.symm) (fun e : Bk = gd => D.n6 e.symm), h.l.but hb (fun e : Bl = gd => D.n7 e.symm), h.lm, h.ll, Nat.lt_of_lt_of_le h.zk hb.size, Nat.lt_of_lt_of_le h.zl hb.size, h.b.trans (hb.below (B := w.heap.size) (fun k hk => by subst hk; exact D.u2) h.b.size)⟩
theorem byin_bytes {A : Option Addr} {Bb cap : Nat} {m : List Int} (h : ByIn w A Bb cap m) : B.BytesAt w A m := fun i row hrow => by
  rw [List.getElem?_map] at hrow
  cases hx : m[i]? with
  | none => rw [hx] at hrow; cases hrow
  | some x =>
    rw [hx] at hrow
    injection hrow with hrow
    obtain ⟨hA, hl, hc, _⟩ := h.cell hx
    refine ⟨Bb, 0, hA, hl, fun j u hu => ?_⟩
    subst hrow
    cases j with
    | zero =>
      injection hu with hu
      rw [← hu, Nat.mul_one, Nat.zero_add, Nat.add_zero]
      exact hc
    | succ j => cases hu
theorem touch7 (hG : I.Laid w) (h : SI w gc gd g Bk ck Bl cl N c d mm ml W) (hc : c.Ok) {a : Nat} {lg : Int} {wb : Bool} (ht : touchP c mm = (a, lg, wb)) :
    Calls Tryd.prog 13 #[.agg #[.int .u32 (c.r 0), .int .u32 (c.r 1), .int .u32 (c.r 2), .int .u32 (c.r 3), .int .u32 (c.r 4), .int .u32 (c.r 5), .int .u32 (c.r 6), .int .u32 (c.r 7), .complex .f64 (c.z 0).1 (c.z 0).2, .complex .f64 (c.z 1).1 (c.z 1).2, .int .u32 c.pc], .iface 31 (.pointer (some ⟨g, 0, none⟩))] W fun e w' => e = .returned (.tuple #[.int .u32 (a : Int), .int .i64 lg, .bool wb]) ∧ SI w gc gd g Bk ck Bl cl N c d mm ml w' := by
  have h1 := touch_any (hG.below h.b) h.m hc
  rw [ht] at h1
  exact h1.mono fun e w' ⟨he, hb⟩ => ⟨he, h.below hb⟩
theorem refTouch7 (h : SI w gc gd g Bk ck Bl cl N c d mm ml W) (hc : d.Ok) {a : Nat} {lg : Int} {wb : Bool} (ht : touchP d ml = (a, lg, wb)) :
    Calls Tryd.prog 14 #[.agg #[.int .u32 (d.r 0), .int .u32 (d.r 1), .int .u32 (d.r 2), .int .u32 (d.r 3), .int .u32 (d.r 4), .int .u32 (d.r 5), .int .u32 (d.r 6), .int .u32 (d.r 7), .complex .f64 (d.z 0).1 (d.z 0).2, .complex .f64 (d.z 1).1 (d.z 1).2, .int .u32 d.pc], .slice (some ⟨Bl, 0, none⟩) N cl] W fun e w' => e = .returned (.tuple #[.int .u32 (a : Int), .int .i64 lg, .bool wb]) ∧ SI w gc gd g Bk ck Bl cl N c d mm ml w' := by
  have h1 := refTouch_any h.l hc
  rw [ht, h.ll] at h1
  exact h1.mono fun e w' ⟨he, hb⟩ => ⟨he, h.below hb⟩
theorem step7 (hG : I.Laid w) (h : SI w gc gd g Bk ck Bl cl N c d mm ml W) (D : Dj w gc gd g Bk Bl) (hc : c.Ok) {n : Cp} {t : Int} {m' : List Int} (hs : stepP c mm = (n, t, m')) :
    Calls Tryd.prog 15 #[.agg #[.int .u32 (c.r 0), .int .u32 (c.r 1), .int .u32 (c.r 2), .int .u32 (c.r 3), .int .u32 (c.r 4), .int .u32 (c.r 5), .int .u32 (c.r 6), .int .u32 (c.r 7), .complex .f64 (c.z 0).1 (c.z 0).2, .complex .f64 (c.z 1).1 (c.z 1).2, .int .u32 c.pc], .iface 31 (.pointer (some ⟨g, 0, none⟩))] W fun e w' => e = .returned (.tuple #[.agg #[.int .u32 (n.r 0), .int .u32 (n.r 1), .int .u32 (n.r 2), .int .u32 (n.r 3), .int .u32 (n.r 4), .int .u32 (n.r 5), .int .u32 (n.r 6), .int .u32 (n.r 7), .complex .f64 (n.z 0).1 (n.z 0).2, .complex .f64 (n.z 1).1 (n.z 1).2, .int .u32 n.pc], .int .i64 t]) ∧ SI w gc gd g Bk ck Bl cl N c d m' ml w' := by
  have h1 := step_any (hG.below h.b) h.m hc h.zk
  have h2 := step_len c mm
  rw [hs] at h1 h2
  exact h1.mono fun e w' ⟨he, hm, hb⟩ => ⟨he, h.stepM D hm (h2.trans h.lm) hb⟩
theorem refStep7 (h : SI w gc gd g Bk ck Bl cl N c d mm ml W) (D : Dj w gc gd g Bk Bl) (hc : d.Ok) {n : Cp} {t : Int} {m' : List Int} (hs : stepP d ml = (n, t, m')) :
    Calls Tryd.prog 16 #[.agg #[.int .u32 (d.r 0), .int .u32 (d.r 1), .int .u32 (d.r 2), .int .u32 (d.r 3), .int .u32 (d.r 4), .int .u32 (d.r 5), .int .u32 (d.r 6), .int .u32 (d.r 7), .complex .f64 (d.z 0).1 (d.z 0).2, .complex .f64 (d.z 1).1 (d.z 1).2, .int .u32 d.pc], .slice (some ⟨Bl, 0, none⟩) N cl] W fun e w' => e = .returned (.tuple #[.agg #[.int .u32 (n.r 0), .int .u32 (n.r 1), .int .u32 (n.r 2), .int .u32 (n.r 3), .int .u32 (n.r 4), .int .u32 (n.r 5), .int .u32 (n.r 6), .int .u32 (n.r 7), .complex .f64 (n.z 0).1 (n.z 0).2, .complex .f64 (n.z 1).1 (n.z 1).2, .int .u32 n.pc], .int .i64 t]) ∧ SI w gc gd g Bk ck Bl cl N c d mm m' w' ∧ But (fun k => k = Bl) W w' := by
  have h1 := refStep_any h.l hc
  have h2 := step_len d ml
  rw [hs, h.ll] at h1
  rw [hs] at h2
  exact h1.mono fun e w' ⟨he, hm, hb⟩ => ⟨he, h.stepL D hm (h2.trans h.ll) hb, hb⟩
/-- And two more Cpus. -/
structure SN (w : World) (gc gd g Bk ck Bl cl N : Nat) (c d : Cp) (mm ml : List Int) (gn gp : Nat) (n p : Cp) (W : World) : Prop where
  si : SI w gc gd g Bk ck Bl cl N c d mm ml W
  nn : CpAt W gn n
  pp : CpAt W gp p
theorem SN.below {gn gp : Nat} {n p : Cp} (h : SN w gc gd g Bk ck Bl cl N c d mm ml gn gp n p W) (hb : Below W.heap.size W W') : SN w gc gd g Bk ck Bl cl N c d mm ml gn gp n p W' :=
  ⟨h.si.below hb, h.nn.below hb h.nn.lt, h.pp.below hb h.pp.lt⟩
end Go.Proofs.YtoglmemmdolbmaaDoor
