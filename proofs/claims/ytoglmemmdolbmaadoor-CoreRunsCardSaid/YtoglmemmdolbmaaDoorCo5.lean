/-
  Where an instruction that jumps goes on, walked. Condition: a Cpu and a memory lie in blocks of their own; the instruction is one of them.
-/
import Derived.Test.YtoglmemmdolbmaaDoorCo2
import Derived.Deep.RegionLaw
namespace Go.Proofs.YtoglmemmdolbmaaDoor
section
open Go.RowKit
set_option linter.unusedVariables false
set_option linter.unusedSimpArgs false
attribute [local go_sem] Oper.semAt_some

def truthP (p : Prop) [Decidable p] : Int := if p then 1 else 0
set_option maxRecDepth 100000 in
theorem truth_any {w : World} (q : Bool) : Calls Tryd.prog 59 #[.bool q] w fun e w' => e = .returned (.int .u32 (if q then 1 else 0)) ∧ w' = w := by
  cases q
  all_goals
    go_enter Tryd.func59, Tryd.ntmps59
    go_wp2
    go_ret
    exact ⟨rfl, rfl⟩
theorem low_bits (x : Int) (h0 : 0 ≤ x) (h1 : x ≤ 4294967295) : bits .and .u32 x 31 = x % 32 ∧ bits .and .u32 x 65535 = x % 65536 := by
  have q32 : (2 : Int) ^ 32 = 4294967296 := by decide
  have q5 : (2 : Int) ^ 5 = 32 := by decide
  have q16 : (2 : Int) ^ 16 = 65536 := by decide
  constructor
  · have h := bits_mask .u32 32 (by decide) wraps_u32 5 (by decide) x h0 (by rw [q32]; omega)
    rw [q5] at h
    exact h
  · have h := bits_mask .u32 32 (by decide) wraps_u32 16 (by decide) x h0 (by rw [q32]; omega)
    rw [q16] at h
    exact h
def shlP (a b : Int) : Int := a * 2 ^ (b % 32).toNat % 4294967296
def shrP (a b : Int) : Int := a / 2 ^ (b % 32).toNat
theorem shl_run (a b : Int) (hb : 0 ≤ b ∧ b ≤ 4294967295) (w : World) : (Op.shift .shl .u32 a .u32 (bits .and .u32 b 31)).run Tryd.prog w = .ok (.int .u32 (shlP a b)) w := by
  rw [(low_bits b hb.1 hb.2).1]
  have h : ¬ b % 32 < 0 := by omega
  unfold Op.shift
  rw [if_neg h, show min (b % 32).toNat IntKind.u32.bits = (b % 32).toNat from Nat.min_eq_left (by show (b % 32).toNat ≤ 32; omega)]
  show Result.ok (Value.int .u32 (IntKind.u32.wrap (a * 2 ^ (b % 32).toNat))) w = _
  rw [IntKind.wrap_u32]
  rfl
theorem shr_run (a b : Int) (hb : 0 ≤ b ∧ b ≤ 4294967295) (w : World) : (Op.shift .shr .u32 a .u32 (bits .and .u32 b 31)).run Tryd.prog w = .ok (.int .u32 (shrP a b)) w := by
  rw [(low_bits b hb.1 hb.2).1]
  have h : ¬ b % 32 < 0 := by omega
  unfold Op.shift
  rw [if_neg h, show min (b % 32).toNat IntKind.u32.bits = (b % 32).toNat from Nat.min_eq_left (by show (b % 32).toNat ≤ 32; omega)]
  show Result.ok (Value.int .u32 (a.fdiv (2 ^ (b % 32).toNat))) w = _
  rw [Int.fdiv_eq_ediv_of_nonneg _ (Int.le_of_lt (Int.pow_pos (by decide)))]
  rfl
/-- What instruction op makes of a and b, if it is one of them. -/
def countP (op im a b : Int) : Option Int :=
  if op = 1 then some (im % 4294967296)
  else if op = 2 then some (im % 65536 * 65536 + a % 65536)
  else if op = 3 then some b
  else if op = 4 then some ((a + b) % 4294967296)
  else if op = 5 then some ((a - b) % 4294967296)
  else if op = 6 then some (a * b % 4294967296)
  else if op = 7 then some (bits .and .u32 a b)
  else if op = 8 then some (bits .or .u32 a b)
  else if op = 9 then some (bits .xor .u32 a b)
  else if op = 10 then some (shlP a b)
  else if op = 11 then some (shrP a b)
  else if op = 12 then some ((a + im % 4294967296) % 4294967296)
  else if op = 13 then some (if wrap32 a < wrap32 b then 1 else 0)
  else if op = 14 then some (if a = b then 1 else 0)
  else none
theorem lui_bits (im a : Int) (ha : 0 ≤ a ∧ a ≤ 4294967295) : bits .or .u32 (IntKind.u16.wrap im % 4294967296 * 65536 % 4294967296) (bits .and .u32 a 65535) = im % 65536 * 65536 + a % 65536 := by
  have q32 : (2 : Int) ^ 32 = 4294967296 := by decide
  have q16 : (2 : Int) ^ 16 = 65536 := by decide
  rw [(low_bits a ha.1 ha.2).2, show IntKind.u16.wrap im % 4294967296 * 65536 % 4294967296 = im % 65536 * 65536 by show im % 65536 % 4294967296 * 65536 % 4294967296 = _; omega]
  exact bits_join .u32 32 (by decide) wraps_u32 16 (im % 65536 * 65536) (a % 65536) (by omega) (by rw [q16]; omega) (by rw [q32]; omega) (by omega) (by rw [q16]; omega) (by rw [q32]; omega)

set_option maxRecDepth 100000 in
set_option maxHeartbeats 8000000 in
theorem count_any {w : World} (op xa xb im a b : Int) (h0 : 0 ≤ op) (h1 : op ≤ 14) (hi : -32768 ≤ im ∧ im ≤ 32767) (ha : 0 ≤ a ∧ a ≤ 4294967295) (hb : 0 ≤ b ∧ b ≤ 4294967295) :
    Calls Tryd.prog 36 #[.agg #[.int .i64 op, .int .i64 xa, .int .i64 xb, .int .i64 im], .int .u32 a, .int .u32 b] w fun e w' => e = .returned (.tuple #[.int .u32 ((countP op im a b).getD 0), .bool (countP op im a b).isSome]) ∧ Below w.heap.size w w' := by
  have hx := Blk.new w 38 #[.int .i64 op, .int .i64 xa, .int .i64 xb, .int .i64 im]
  have HB0 := Lib.hid (bl_new (Below.refl w.heap.size w) (.cells #[.int .i64 op, .int .i64 xa, .int .i64 xb, .int .i64 im] 38))
  have HL := Lib.hid (lui_bits im a ha)
  have HSL := Lib.hid (fun w => shl_run a b hb w)
  have HSR := Lib.hid (fun w => shr_run a b hb w)
  obtain ⟨hi0, hi1⟩ := hi
  obtain ⟨ha0, ha1⟩ := ha
  obtain ⟨hb0, hb1⟩ := hb
  have HT := Lib.hid (fun q W => truth_any (w := W) q)
  obtain ⟨c0, c1, c2, c3, clt⟩ := ccells hx
  clear hx
  by_cases hop : op = 10 ∨ op = 11 ∨ op = 13 ∨ op = 14
  · rcases hop with rfl | rfl | rfl | rfl
    · have hsl := HSL.out
      clear h0 h1
      rw [show countP 10 im a b = some (shlP a b) from rfl]
      generalize shlP a b = v at *
      go_enter Tryd.func36, Tryd.ntmps36
      go_wp2
      go_ret2
      exact ⟨rfl, HB0.out⟩
    · have hsr := HSR.out
      clear h0 h1
      rw [show countP 11 im a b = some (shrP a b) from rfl]
      generalize shrP a b = v at *
      go_enter Tryd.func36, Tryd.ntmps36
      go_wp2
      go_ret2
      exact ⟨rfl, HB0.out⟩
    · clear h0 h1
      by_cases hlt : wrap32 a < wrap32 b
      · rw [show countP 13 im a b = some 1 from by unfold countP; simp [hlt]]
        have HT2 := Lib.hid (fun W => HT.out true W)
        clear HT
        go_enter Tryd.func36, Tryd.ntmps36
        go_wp2_with fail
        refine (HT2.out _).mono ?_
        rintro e w1 ⟨rfl, rfl⟩
        go_wp2
        go_ret2
        exact ⟨rfl, HB0.out⟩
      · rw [show countP 13 im a b = some 0 from by unfold countP; simp [hlt]]
        have HT2 := Lib.hid (fun W => HT.out false W)
        clear HT
        go_enter Tryd.func36, Tryd.ntmps36
        go_wp2_with fail
        refine (HT2.out _).mono ?_
        rintro e w1 ⟨rfl, rfl⟩
        go_wp2
        go_ret2
        exact ⟨rfl, HB0.out⟩
    · clear h0 h1
      by_cases hlt : a = b
      · rw [show countP 14 im a b = some 1 from by unfold countP; simp [hlt]]
        have hbq : (a == b) = true := by simpa using hlt
        have HT2 := Lib.hid (fun W => HT.out true W)
        clear hlt
        clear HT
        go_enter Tryd.func36, Tryd.ntmps36
        go_wp2_with fail
        refine (HT2.out _).mono ?_
        rintro e w1 ⟨rfl, rfl⟩
        go_wp2
        go_ret2
        exact ⟨rfl, HB0.out⟩
      · rw [show countP 14 im a b = some 0 from by unfold countP; simp [hlt]]
        have hbq : (a == b) = false := by simpa using hlt
        have HT2 := Lib.hid (fun W => HT.out false W)
        clear hlt
        clear HT
        go_enter Tryd.func36, Tryd.ntmps36
        go_wp2_with fail
        refine (HT2.out _).mono ?_
        rintro e w1 ⟨rfl, rfl⟩
        go_wp2
        go_ret2
        exact ⟨rfl, HB0.out⟩
  rcases (show op = 2 ∨ op = 0 ∨ op = 1 ∨ op = 3 ∨ op = 4 ∨ op = 5 ∨ op = 6 ∨ op = 7 ∨ op = 8 ∨ op = 9 ∨ op = 12 by omega) with rfl | rfl | rfl | rfl | rfl | rfl | rfl | rfl | rfl | rfl | rfl
  · clear h0 h1 hop
    go_enter Tryd.func36, Tryd.ntmps36
    go_wp2
    go_ret2
    refine ⟨?_, HB0.out⟩
    rw [show countP 2 im a b = some (im % 65536 * 65536 + a % 65536) from rfl, ← HL.out]
    rfl
  all_goals
    clear h0 h1 hop
    go_enter Tryd.func36, Tryd.ntmps36
    go_wp2
    go_ret2
    exact ⟨rfl, HB0.out⟩
end
end Go.Proofs.YtoglmemmdolbmaaDoor
namespace Go.Proofs.YtoglmemmdolbmaaDoor
section
open Go.RowKit
set_option linter.unusedVariables false
set_option linter.unusedSimpArgs false
attribute [local go_sem] Oper.semAt_some

theorem RamAt.but {w w' : World} {g : Nat} {A : Option Addr} {B cap : Nat} {m : List Int} {S : Nat → Prop} (h : RamAt w g A B cap m) (hb : But S w w') (hg : ¬ S g) (hB : ¬ S B) : RamAt w' g A B cap m :=
  ⟨h.p.but hb hg, fun hne => by
    obtain ⟨hA, cs, hc, rest⟩ := h.row hne
    exact ⟨hA, cs, hc.but hb hB, rest⟩, h.cap, h.ne, h.low, h.len⟩
/-- What a step may turn: the Cpu's block and the bytes'. -/
def SM (gc B : Nat) (k : Nat) : Prop := k = gc ∨ k = B
/-- A step's outcome: the Cpu, the memory; all else lies. -/
structure Moved (w w' : World) (gc g : Nat) (A : Option Addr) (B cap : Nat) (c : Cp) (m : List Int) : Prop where
  c : CpAt w' gc c
  m : RamAt w' g A B cap m
  b : But (SM gc B) w w'
theorem cp_fz {w : World} {g : Nat} {c : Cp} (h : CpAt w g c) (k : Nat) : w.frozen? ⟨g, k, none⟩ = false := h.frozen k
theorem moved_reg {w W : World} {gc g : Nat} {A : Option Addr} {B cap : Nat} {c : Cp} {m : List Int} (hC : CpAt W gc c) (hM : RamAt W g A B cap m) (hB : Below w.heap.size w W) (hcg : gc ≠ g) (hcB : gc ≠ B) {a : Nat} (ha : a < 8) (v : Int) : Moved w (W.setCell ⟨gc, a, none⟩ (.int .u32 v)).drew gc g A B cap (c.setR a v) m := by
  have hbut : But (fun k => k = gc) W (W.setCell ⟨gc, a, none⟩ (.int .u32 v)).drew := (But.setCell (S := fun k => k = gc) (But.refl _ _) (p := ⟨gc, a, none⟩) (.inl rfl) _).drew
  refine ⟨?_, hM.but hbut (fun h => hcg h.symm) (fun h => hcB h.symm), ((But.of_below hB).setCell (S := SM gc B) (p := ⟨gc, a, none⟩) (.inl (.inl rfl)) _).drew⟩
  have h := (hC.set_ a (.int .u32 v)).drew
  rw [arr_setR c ha v] at h
  exact h
theorem moved_mem {w W W' : World} {gc g : Nat} {A : Option Addr} {B cap : Nat} {c : Cp} {m' : List Int} (hC : CpAt W gc c) (hB : Below w.heap.size w W) (hcB : gc ≠ B) (hM : RamAt W' g A B cap m') (hb : But (fun k => k = B) W.drew W') : Moved w W' gc g A B cap c m' :=
  ⟨hC.drew.but hb (fun h => hcB h), hM, (But.of_below (S := SM gc B) hB).drew.trans hb (fun i h => .inl (.inr h))⟩
theorem moved_below {w W : World} {gc g : Nat} {A : Option Addr} {B cap : Nat} {c : Cp} {m : List Int} (hC : CpAt w gc c) (hM : RamAt w g A B cap m) (hB : Below w.heap.size w W) : Moved w W gc g A B cap c m :=
  ⟨hC.below hB hC.lt, hM.below hB, But.of_below hB⟩
def atP (c : Cp) (b : Nat) (im : Int) : Nat := ((c.r b + im % 4294967296) % 4294967296).toNat
theorem at_lt (c : Cp) (b : Nat) (im : Int) : atP c b im < 4294967296 := by unfold atP; omega
theorem at_eq (c : Cp) (b : Nat) (im : Int) : (c.r b + im % 4294967296) % 4294967296 = (atP c b im : Int) := by unfold atP; omega

set_option maxRecDepth 100000 in
set_option maxHeartbeats 8000000 in
theorem lw_any {w : World} {gc g : Nat} {A : Option Addr} {B cap : Nat} {c : Cp} {m : List Int} (hC : CpAt w gc c) (hM : RamAt w g A B cap m) (hcg : gc ≠ g) (hcB : gc ≠ B) (hc : c.Ok) (a b : Nat) (ha : a < 8) (hb : b < 8) (im : Int) (hi : -32768 ≤ im ∧ im ≤ 32767) :
    Calls Tryd.prog 33 #[.agg #[.int .i64 15, .int .i64 (a : Int), .int .i64 (b : Int), .int .i64 im], .pointer (some ⟨gc, 0, none⟩), .iface 31 (.pointer (some ⟨g, 0, none⟩))] w fun e w' =>
      (atP c b im % 4 = 0 ∧ (∃ v, wordM m (atP c b im) = some v ∧ e = .returned (.bool true) ∧ Moved w w' gc g A B cap (c.setR a v) m)) ∨ ((atP c b im % 4 ≠ 0 ∨ wordM m (atP c b im) = none) ∧ e = .returned (.bool false) ∧ Below w.heap.size w w') := by
  have hb0 := bl_new (Below.refl w.heap.size w) (.cells #[.int .i64 15, .int .i64 (a : Int), .int .i64 (b : Int), .int .i64 im] 38)
  have hx := Blk.new w 38 #[.int .i64 15, .int .i64 (a : Int), .int .i64 (b : Int), .int .i64 im]
  have hC1 := hC.alloc (.cells #[.int .i64 15, .int .i64 (a : Int), .int .i64 (b : Int), .int .i64 im] 38)
  have hat := at_eq c b im
  have hal := at_lt c b im
  have hrb := cp_reg hC1 hb
  have hra := cp_reg hC1 ha
  have hrr := hc.r b
  have hltc := hC.lt
  generalize atP c b im = t at *
  generalize hrbv : c.r b = rb at *
  have HC1 := Lib.hid hC1
  have HM := Lib.hid hM
  have HB0 := Lib.hid hb0
  have HW := Lib.hid (fun W (hW : Below w.heap.size w W) => word_any (hM.below hW) t hal)
  have hmw := fun n w => mWord n g w
  have hX := hx
  obtain ⟨hi0, hi1⟩ := hi
  obtain ⟨hr0, hr1⟩ := hrr
  have hab : (a : Int) < 8 := by omega
  have hbb : (b : Int) < 8 := by omega
  obtain ⟨c0, c1, c2, c3, clt⟩ := ccells hx
  clear hx hb0 hM hc hC1
  by_cases hz : t % 4 = 0
  · have hzb : ((t : Int) % 4 != 0) = false := by simp; omega
    go_enter Tryd.func33, Tryd.ntmps33
    go_wp2_with (go_quiet (fail))
    rename Nat => nq
    have HBQ := Lib.hid (below_drewN HB0.out nq)
    have HCQ := Lib.hid (HC1.out.drewN nq)
    have HXQ := Lib.hid (hX.drewN nq)
    refine (HW.out _ HBQ.out).mono ?_
    rintro e W1 ⟨rfl, hb1⟩
    have HB1 := Lib.hid (bl_step HBQ.out hb1)
    have HC2 := Lib.hid (HCQ.out.below hb1 HCQ.out.lt)
    have HM1 := Lib.hid (HM.out.below HB1.out)
    have HX1 := Lib.hid (HXQ.out.below hb1 HXQ.out.lt)
    obtain ⟨c0, c1, c2, c3, clt⟩ := ccells HX1.out
    have hra := cp_reg HC2.out ha
    have hfa := cp_fz HC2.out a
    have hltc := HC2.out.lt
    clear hb1
    cases hwm : wordM m t with
    | none =>
      go_wp2
      go_ret
      exact .inr ⟨.inr hwm, rfl, HB1.out⟩
    | some v =>
      go_wp2_with fail
      go_region
      all_goals
        go_wp2
        go_ret
        exact .inl ⟨hz, v, hwm, rfl, moved_reg HC2.out HM1.out HB1.out hcg hcB ha v⟩
  · have hzb : ((t : Int) % 4 != 0) = true := by simp; omega
    have HZ := Lib.hid (show t % 4 ≠ 0 ∨ wordM m t = none from .inl hz)
    go_enter Tryd.func33, Tryd.ntmps33
    go_wp2_with (go_quiet (fail))
    go_ret
    exact .inr ⟨HZ.out, rfl, below_drewN HB0.out _⟩
set_option maxRecDepth 100000 in
set_option maxHeartbeats 8000000 in
theorem lb_any {w : World} {gc g : Nat} {A : Option Addr} {B cap : Nat} {c : Cp} {m : List Int} (hC : CpAt w gc c) (hM : RamAt w g A B cap m) (hcg : gc ≠ g) (hcB : gc ≠ B) (hc : c.Ok) (a b : Nat) (ha : a < 8) (hb : b < 8) (im : Int) (hi : -32768 ≤ im ∧ im ≤ 32767) :
    Calls Tryd.prog 33 #[.agg #[.int .i64 17, .int .i64 (a : Int), .int .i64 (b : Int), .int .i64 im], .pointer (some ⟨gc, 0, none⟩), .iface 31 (.pointer (some ⟨g, 0, none⟩))] w fun e w' =>
      (atP c b im < m.length ∧ e = .returned (.bool true) ∧ Moved w w' gc g A B cap (c.setR a (m.getD (atP c b im) 0)) m) ∨ (¬ atP c b im < m.length ∧ e = .returned (.bool false) ∧ Below w.heap.size w w') := by
  have hb0 := bl_new (Below.refl w.heap.size w) (.cells #[.int .i64 17, .int .i64 (a : Int), .int .i64 (b : Int), .int .i64 im] 38)
  have hx := Blk.new w 38 #[.int .i64 17, .int .i64 (a : Int), .int .i64 (b : Int), .int .i64 im]
  have hC1 := hC.alloc (.cells #[.int .i64 17, .int .i64 (a : Int), .int .i64 (b : Int), .int .i64 im] 38)
  have hat := at_eq c b im
  have hal := at_lt c b im
  have hrb := cp_reg hC1 hb
  have hra := cp_reg hC1 ha
  have hrr := hc.r b
  have hltc := hC.lt
  generalize atP c b im = t at *
  generalize hrbv : c.r b = rb at *
  have HC1 := Lib.hid hC1
  have HM := Lib.hid hM
  have HB0 := Lib.hid hb0
  have HW := Lib.hid (fun W (hW : Below w.heap.size w W) => byte_any (hM.below hW) t hal)
  have hmw := fun n w => mByte n g w
  have hX := hx
  obtain ⟨hi0, hi1⟩ := hi
  obtain ⟨hr0, hr1⟩ := hrr
  have hab : (a : Int) < 8 := by omega
  have hbb : (b : Int) < 8 := by omega
  obtain ⟨c0, c1, c2, c3, clt⟩ := ccells hx
  clear hx hb0 hM hc hC1
  have hlow := HM.out.low
  go_enter Tryd.func33, Tryd.ntmps33
  go_wp2_with (go_quiet (fail))
  rename Nat => nq
  have HBQ := Lib.hid (below_drewN HB0.out nq)
  have HCQ := Lib.hid (HC1.out.drewN nq)
  have HXQ := Lib.hid (hX.drewN nq)
  generalize (w.alloc (.cells #[.int .i64 17, .int .i64 (a : Int), .int .i64 (b : Int), .int .i64 im] 38)).drewN nq = W1 at *
  clear c0 c1 c2 c3 clt hra hrb hltc
  refine (HW.out _ HBQ.out).mono ?_
  rintro e W2 ⟨rfl, rfl⟩
  have HM1 := Lib.hid (HM.out.below HBQ.out)
  obtain ⟨c0, c1, c2, c3, clt⟩ := ccells HXQ.out
  have hra := cp_reg HCQ.out ha
  have hfa := cp_fz HCQ.out a
  have hltc := HCQ.out.lt
  by_cases hlt : t < m.length
  · have hld : decide (t < m.length) = true := decide_eq_true hlt
    have hv : 0 ≤ m.getD t 0 ∧ m.getD t 0 ≤ 255 := hlow _ (by rw [List.getD_eq_getElem?_getD, List.getElem?_eq_getElem hlt]; exact List.getElem_mem hlt)
    obtain ⟨v, hve⟩ : ∃ v, m.getD t 0 = v := ⟨_, rfl⟩
    have HVE := Lib.hid hve
    rw [hve] at hv
    simp only [hve]
    clear hve
    obtain ⟨hv0, hv1⟩ := hv
    go_wp2_with fail
    go_region
    all_goals
      go_wp2
      go_ret
      exact .inl ⟨hlt, rfl, by rw [HVE.out]; exact moved_reg HCQ.out HM1.out HBQ.out hcg hcB ha v⟩
  · have hld : decide (t < m.length) = false := decide_eq_false hlt
    go_wp2
    go_ret
    exact .inr ⟨hlt, rfl, HBQ.out⟩

set_option maxRecDepth 100000 in
set_option maxHeartbeats 8000000 in
theorem sw_any {w : World} {gc g : Nat} {A : Option Addr} {B cap : Nat} {c : Cp} {m : List Int} (hC : CpAt w gc c) (hM : RamAt w g A B cap m) (hcg : gc ≠ g) (hcB : gc ≠ B) (hc : c.Ok) (a b : Nat) (ha : a < 8) (hb : b < 8) (im : Int) (hi : -32768 ≤ im ∧ im ≤ 32767) :
    Calls Tryd.prog 33 #[.agg #[.int .i64 16, .int .i64 (a : Int), .int .i64 (b : Int), .int .i64 im], .pointer (some ⟨gc, 0, none⟩), .iface 31 (.pointer (some ⟨g, 0, none⟩))] w fun e w' =>
      ((atP c b im % 4 = 0 ∧ atP c b im + 4 ≤ m.length) ∧ e = .returned (.bool true) ∧ Moved w w' gc g A B cap c (set4 m (atP c b im) (c.r a))) ∨ (¬ (atP c b im % 4 = 0 ∧ atP c b im + 4 ≤ m.length) ∧ e = .returned (.bool false) ∧ Moved w w' gc g A B cap c m) := by
  have hb0 := bl_new (Below.refl w.heap.size w) (.cells #[.int .i64 16, .int .i64 (a : Int), .int .i64 (b : Int), .int .i64 im] 38)
  have hX := Blk.new w 38 #[.int .i64 16, .int .i64 (a : Int), .int .i64 (b : Int), .int .i64 im]
  have hC1 := hC.alloc (.cells #[.int .i64 16, .int .i64 (a : Int), .int .i64 (b : Int), .int .i64 im] 38)
  have hat := at_eq c b im
  have hal := at_lt c b im
  have hrb := cp_reg hC1 hb
  have hra := cp_reg hC1 ha
  have hrr := hc.r b
  have hrra := hc.r a
  have hltc := hC.lt
  generalize atP c b im = t at *
  obtain ⟨rb, hrbv⟩ : ∃ rb, c.r b = rb := ⟨_, rfl⟩
  obtain ⟨ra, hrav⟩ : ∃ ra, c.r a = ra := ⟨_, rfl⟩
  rw [hrbv] at hrr hat hrb
  rw [hrav] at hrra hra
  simp only [hrav]
  have HRA := Lib.hid hrav
  have HC1 := Lib.hid hC1
  have HM := Lib.hid hM
  have HB0 := Lib.hid hb0
  obtain ⟨hi0, hi1⟩ := hi
  obtain ⟨hr0, hr1⟩ := hrr
  obtain ⟨hq0, hq1⟩ := hrra
  have hms := fun n w => mSetWord n g w
  have hns := fun n w => nSetWord n g w
  have hab : (a : Int) < 8 := by omega
  have hbb : (b : Int) < 8 := by omega
  have HS := Lib.hid (fun W (hW : Below w.heap.size w W) => setWord_any (hM.below hW) t hal ra ⟨hq0, hq1⟩)
  obtain ⟨c0, c1, c2, c3, clt⟩ := ccells hX
  clear hb0 hM hc hC1 hrbv hrav
  by_cases hz : t % 4 = 0
  · have hzb : ((t : Int) % 4 == 0) = true := by simp; omega
    have hz2 : (t : Int) % 4 = 0 := by omega
    have htm : (t : Int).tmod 4 = 0 := by rw [Int.tmod_eq_emod_of_nonneg (by omega)]; exact hz2
    go_enter Tryd.func33, Tryd.ntmps33
    go_wp2_with (go_quiet (fail))
    rename Nat => nq
    have HBQ := Lib.hid (below_drewN HB0.out nq)
    have HCQ := Lib.hid (HC1.out.drewN nq)
    have HXQ := Lib.hid (hX.drewN nq)
    generalize (w.alloc (.cells #[.int .i64 16, .int .i64 (a : Int), .int .i64 (b : Int), .int .i64 im] 38)).drewN nq = W1 at *
    clear c0 c1 c2 c3 clt hra hrb hltc hX
    obtain ⟨c0, c1, c2, c3, clt⟩ := ccells HXQ.out
    have hra : W1.cell? ⟨gc, a, none⟩ = some (.int .u32 ra) := by rw [cp_reg HCQ.out ha, HRA.out]
    have hbq := HBQ.out
    refine wp_region_any (by kernel_rfl) ?_
    change wpAny _ _ _ _ _ _ _ (World.drew _)
    refine wpAny_take (i := 0) (v := ?_) rfl (by kernel_rfl) (by kernel_rfl) (by kernel_rfl) (fun _ _ _ h => h) (Or.inl ⟨by kernel_rfl, ?_⟩) ?_
    rotate_left 1
    · intro w
      go_simp
      all_goals with_reducible rfl
    refine wpAny_take (i := 1) (v := .int .u32 0) rfl (by kernel_rfl) (by kernel_rfl) (by kernel_rfl) (fun _ _ _ h => h) (Or.inl ⟨by kernel_rfl, ?_⟩) ?_
    · intro w
      go_simp
      all_goals first | with_reducible rfl | simp only [htm] | rw [htm]
    refine wpAny_take (i := 2) (v := .bool true) rfl (by kernel_rfl) (by kernel_rfl) (by kernel_rfl) (fun _ _ _ h => h) (Or.inl ⟨by kernel_rfl, ?_⟩) ?_
    · intro w
      go_simp
      all_goals with_reducible rfl
    refine wpAny_take (i := 3) (v := .bool true) rfl (by kernel_rfl) (by kernel_rfl) (by kernel_rfl) (fun _ _ _ h => h) (Or.inl ⟨by kernel_rfl, ?_⟩) ?_
    · intro w
      go_simp
      all_goals with_reducible rfl
    refine wpAny_take (i := 4) (v := ?_) rfl (by kernel_rfl) (by kernel_rfl) (by kernel_rfl) (fun _ _ _ h => h) (Or.inl ⟨by kernel_rfl, ?_⟩) ?_
    rotate_left 1
    · intro w
      go_simp
      all_goals with_reducible rfl
    refine wpAny_take (i := 5) (v := ?_) rfl (by kernel_rfl) (by kernel_rfl) (by kernel_rfl) (fun _ _ _ h => h) (Or.inl ⟨by kernel_rfl, ?_⟩) ?_
    rotate_left 1
    · intro w
      go_simp
      all_goals with_reducible rfl
    refine wpAny_take (i := 6) (v := ?_) rfl (by kernel_rfl) (by kernel_rfl) (by kernel_rfl) (fun _ _ _ h => h) (Or.inl ⟨by kernel_rfl, ?_⟩) ?_
    rotate_left 1
    · intro w
      go_simp
      all_goals with_reducible rfl
    refine wpAny_take (i := 7) (v := ?_) rfl (by kernel_rfl) (by kernel_rfl) (by kernel_rfl) (fun _ _ _ h => h) (Or.inl ⟨by kernel_rfl, ?_⟩) ?_
    rotate_left 1
    · intro w
      go_simp
      all_goals with_reducible rfl
    refine wpAny_take (i := 9) (v := ?_) rfl (by kernel_rfl) (by kernel_rfl) (by kernel_rfl) (fun _ _ _ h => h) (Or.inl ⟨by kernel_rfl, ?_⟩) ?_
    rotate_left 1
    · intro w
      go_simp
      all_goals with_reducible rfl
    refine wpAny_take (i := 10) (v := ?_) rfl (by kernel_rfl) (by kernel_rfl) (by kernel_rfl) (fun _ _ _ h => h) (Or.inl ⟨by kernel_rfl, ?_⟩) ?_
    rotate_left 1
    · intro w
      go_simp
      all_goals with_reducible rfl
    refine wpAny_take (i := 13) (v := ?_) rfl (by kernel_rfl) (by kernel_rfl) (by kernel_rfl) (fun _ _ _ h => h) (Or.inl ⟨by kernel_rfl, ?_⟩) ?_
    rotate_left 1
    · intro w
      go_simp
      all_goals with_reducible rfl
    refine wpAny_take (i := 14) (v := ?_) rfl (by kernel_rfl) (by kernel_rfl) (by kernel_rfl) (fun _ _ _ h => h) (Or.inl ⟨by kernel_rfl, ?_⟩) ?_
    rotate_left 1
    · intro w
      go_simp
      all_goals with_reducible rfl
    refine wpAny_take (i := 15) (v := ?_) rfl (by kernel_rfl) (by kernel_rfl) (by kernel_rfl) (fun _ _ _ h => h) (Or.inl ⟨by kernel_rfl, ?_⟩) ?_
    rotate_left 1
    · intro w
      go_simp
      all_goals with_reducible rfl
    refine wpAny_ready (rs := [8]) (by kernel_rfl) (by simp) ?_
    refine AllReady.cons rfl (fun K hK => ?_) AllReady.nil
    go_simp
    refine hK _ _ ?_
    clear hK K
    refine wpAny_take (i := 11) (v := ?_) rfl (by kernel_rfl) (by kernel_rfl) (by kernel_rfl) (fun _ _ _ h => h) (Or.inl ⟨by kernel_rfl, ?_⟩) ?_
    rotate_left 1
    · intro w
      go_simp
      all_goals with_reducible rfl
    refine wpAny_ready (rs := [12]) (by kernel_rfl) (by simp) ?_
    refine AllReady.cons rfl (fun K hK => ?_) AllReady.nil
    go_simp
    refine hK _ _ ?_
    clear hK K
    refine wpAny_ready (rs := [16]) (by kernel_rfl) (by simp) ?_
    refine AllReady.cons rfl (fun K hK => ?_) AllReady.nil
    go_simp
    refine (HS.out _ hbq.drew).mono ?_
    rintro e W2 ⟨rfl, hm2, hbt⟩
    refine hK _ _ ?_
    clear hK K
    refine wpAny_take (i := 17) (v := ?_) rfl (by kernel_rfl) (by kernel_rfl) (by kernel_rfl) (fun _ _ _ h => h) (Or.inl ⟨by kernel_rfl, ?_⟩) ?_
    rotate_left 1
    · intro w
      go_simp
      all_goals with_reducible rfl
    refine wpAny_ready (rs := [18]) (by kernel_rfl) (by simp) ?_
    refine AllReady.cons rfl (fun K hK => ?_) AllReady.nil
    go_simp
    refine hK _ _ ?_
    clear hK K
    refine wpAny_done (by kernel_rfl) ?_ _
    by_cases hf : t + 4 ≤ m.length
    · rw [if_pos hf] at hm2
      have hfd : decide (t + 4 ≤ m.length) = true := decide_eq_true hf
      go_wp2
      go_ret
      exact .inl ⟨⟨hz, hf⟩, by first | rfl | (rw [hfd]; rfl) | simp [hf], moved_mem HCQ.out hbq hcB hm2 hbt⟩
    · rw [if_neg hf] at hm2
      have hfd : decide (t + 4 ≤ m.length) = false := decide_eq_false hf
      go_wp2
      go_ret
      exact .inr ⟨fun h => hf h.2, by first | rfl | (rw [hfd]; rfl) | simp [hf], moved_mem HCQ.out hbq hcB hm2 hbt⟩
  · have hzb : ((t : Int) % 4 == 0) = false := by simp; omega
    have HZ := Lib.hid (show ¬ (t % 4 = 0 ∧ t + 4 ≤ m.length) from fun h => hz h.1)
    go_enter Tryd.func33, Tryd.ntmps33
    go_wp2_with (go_quiet (fail))
    go_ret
    exact .inr ⟨HZ.out, rfl, moved_below hC HM.out (by first | exact below_drewN HB0.out _ | exact (below_drewN HB0.out _).drew | exact below_drewN (below_drewN HB0.out _) _ | exact below_drewN (below_drewN HB0.out _).drew _)⟩

set_option maxRecDepth 100000 in
set_option maxHeartbeats 8000000 in
theorem sb_any {w : World} {gc g : Nat} {A : Option Addr} {B cap : Nat} {c : Cp} {m : List Int} (hC : CpAt w gc c) (hM : RamAt w g A B cap m) (hcg : gc ≠ g) (hcB : gc ≠ B) (hc : c.Ok) (a b : Nat) (ha : a < 8) (hb : b < 8) (im : Int) (hi : -32768 ≤ im ∧ im ≤ 32767) :
    Calls Tryd.prog 33 #[.agg #[.int .i64 18, .int .i64 (a : Int), .int .i64 (b : Int), .int .i64 im], .pointer (some ⟨gc, 0, none⟩), .iface 31 (.pointer (some ⟨g, 0, none⟩))] w fun e w' =>
      ((atP c b im < m.length) ∧ e = .returned (.bool true) ∧ Moved w w' gc g A B cap c (m.set (atP c b im) (c.r a % 256))) ∨ (¬ (atP c b im < m.length) ∧ e = .returned (.bool false) ∧ Moved w w' gc g A B cap c m) := by
  have hb0 := bl_new (Below.refl w.heap.size w) (.cells #[.int .i64 18, .int .i64 (a : Int), .int .i64 (b : Int), .int .i64 im] 38)
  have hX := Blk.new w 38 #[.int .i64 18, .int .i64 (a : Int), .int .i64 (b : Int), .int .i64 im]
  have hC1 := hC.alloc (.cells #[.int .i64 18, .int .i64 (a : Int), .int .i64 (b : Int), .int .i64 im] 38)
  have hat := at_eq c b im
  have hal := at_lt c b im
  have hrb := cp_reg hC1 hb
  have hra := cp_reg hC1 ha
  have hrr := hc.r b
  have hrra := hc.r a
  have hltc := hC.lt
  generalize atP c b im = t at *
  obtain ⟨rb, hrbv⟩ : ∃ rb, c.r b = rb := ⟨_, rfl⟩
  obtain ⟨ra, hrav⟩ : ∃ ra, c.r a = ra := ⟨_, rfl⟩
  rw [hrbv] at hrr hat hrb
  rw [hrav] at hrra hra
  simp only [hrav]
  have HRA := Lib.hid hrav
  have HC1 := Lib.hid hC1
  have HM := Lib.hid hM
  have HB0 := Lib.hid hb0
  obtain ⟨hi0, hi1⟩ := hi
  obtain ⟨hr0, hr1⟩ := hrr
  obtain ⟨hq0, hq1⟩ := hrra
  have hms := fun n w => mSetByte n g w
  have hns := fun n w => nSetByte n g w
  have hab : (a : Int) < 8 := by omega
  have hbb : (b : Int) < 8 := by omega
  have HS := Lib.hid (fun W (hW : Below w.heap.size w W) => setByte_any (hM.below hW) t hal (ra % 256) (by omega))
  obtain ⟨c0, c1, c2, c3, clt⟩ := ccells hX
  clear hb0 hM hc hC1 hrbv hrav
  by_cases hf : t < m.length
  · simp only [decide_eq_true hf] at HS
    go_enter Tryd.func33, Tryd.ntmps33
    go_wp2_with (go_quiet (fail))
    rename Nat => nq
    have HBQ := Lib.hid (below_drewN HB0.out nq)
    have HCQ := Lib.hid (HC1.out.drewN nq)
    have HXQ := Lib.hid (hX.drewN nq)
    generalize (w.alloc (.cells #[.int .i64 18, .int .i64 (a : Int), .int .i64 (b : Int), .int .i64 im] 38)).drewN nq = W1 at *
    clear c0 c1 c2 c3 clt hra hrb hltc hX
    obtain ⟨c0, c1, c2, c3, clt⟩ := ccells HXQ.out
    have hra : W1.cell? ⟨gc, a, none⟩ = some (.int .u32 ra) := by rw [cp_reg HCQ.out ha, HRA.out]
    have hbq := HBQ.out
    go_region_with (go_at_call 21; refine (HS.out _ ?_).mono ?_; (focus (repeat (first | assumption | refine Below.drew ?_))); rintro e W2 ⟨rfl, hm2, hbt⟩)
    all_goals
      go_wp2
      go_ret
      exact .inl ⟨hf, rfl, moved_mem HCQ.out hbq hcB hm2 hbt⟩
  · simp only [decide_eq_false hf] at HS
    go_enter Tryd.func33, Tryd.ntmps33
    go_wp2_with (go_quiet (fail))
    rename Nat => nq
    have HBQ := Lib.hid (below_drewN HB0.out nq)
    have HCQ := Lib.hid (HC1.out.drewN nq)
    have HXQ := Lib.hid (hX.drewN nq)
    generalize (w.alloc (.cells #[.int .i64 18, .int .i64 (a : Int), .int .i64 (b : Int), .int .i64 im] 38)).drewN nq = W1 at *
    clear c0 c1 c2 c3 clt hra hrb hltc hX
    obtain ⟨c0, c1, c2, c3, clt⟩ := ccells HXQ.out
    have hra : W1.cell? ⟨gc, a, none⟩ = some (.int .u32 ra) := by rw [cp_reg HCQ.out ha, HRA.out]
    have hbq := HBQ.out
    go_region_with (go_at_call 21; refine (HS.out _ ?_).mono ?_; (focus (repeat (first | assumption | refine Below.drew ?_))); rintro e W2 ⟨rfl, hm2, hbt⟩)
    all_goals
      go_wp2
      go_ret
      have hm3 : m.set t (ra % 256) = m := List.set_eq_of_length_le (by omega)
      rw [hm3] at hm2
      exact .inr ⟨hf, rfl, moved_mem HCQ.out hbq hcB hm2 hbt⟩
end
end Go.Proofs.YtoglmemmdolbmaaDoor
namespace Go.Proofs.YtoglmemmdolbmaaDoor
section
open Go.RowKit
set_option linter.unusedVariables false
set_option linter.unusedSimpArgs false
attribute [local go_sem] Oper.semAt_some

def nextP (c : Cp) : Int := (c.pc + 4) % 4294967296
def farP (c : Cp) (im : Int) : Int := (nextP c + 4 * (im % 4294967296) % 4294967296) % 4294967296
theorem next_range (c : Cp) : 0 ≤ nextP c ∧ nextP c ≤ 4294967295 := by unfold nextP; omega
theorem far_range (c : Cp) (im : Int) : 0 ≤ farP c im ∧ farP c im ≤ 4294967295 := by unfold farP; omega
/-- Where it goes on, and the registers. -/
def jumpP (c : Cp) (op : Int) (a : Nat) (im : Int) : Int × Cp :=
  if op = 23 then (c.r a, c)
  else if op = 22 then (farP c im, c.setR a (nextP c))
  else if op = 19 ∨ (op = 20 ∧ c.r a = 0) ∨ (op = 21 ∧ c.r a ≠ 0) then (farP c im, c)
  else (nextP c, c)

set_option maxRecDepth 100000 in
set_option maxHeartbeats 16000000 in
theorem jump_any {w : World} {gc g : Nat} {A : Option Addr} {B cap : Nat} {c : Cp} {m : List Int} (hC : CpAt w gc c) (hM : RamAt w g A B cap m) (hcg : gc ≠ g) (hcB : gc ≠ B) (hc : c.Ok) (op xb : Int) (a : Nat) (h0 : 19 ≤ op) (h1 : op ≤ 23) (ha : a < 8) (im : Int) (hi : -32768 ≤ im ∧ im ≤ 32767) :
    Calls Tryd.prog 34 #[.agg #[.int .i64 op, .int .i64 (a : Int), .int .i64 xb, .int .i64 im], .pointer (some ⟨gc, 0, none⟩)] w fun e w' => e = .returned (.int .u32 (jumpP c op a im).1) ∧ Moved w w' gc g A B cap (jumpP c op a im).2 m := by
  have hb0 := bl_new (Below.refl w.heap.size w) (.cells #[.int .i64 op, .int .i64 (a : Int), .int .i64 xb, .int .i64 im] 38)
  have hX := Blk.new w 38 #[.int .i64 op, .int .i64 (a : Int), .int .i64 xb, .int .i64 im]
  have hC1 := hC.alloc (.cells #[.int .i64 op, .int .i64 (a : Int), .int .i64 xb, .int .i64 im] 38)
  have hra := cp_reg hC1 ha
  have hpc := cp_pc hC1
  have hrr := hc.r a
  have hp0 := hc.p0
  have hp1 := hc.p1
  have hltc := hC.lt
  have HC := Lib.hid hC
  have HM := Lib.hid hM
  have HB0 := Lib.hid hb0
  have HC1 := Lib.hid hC1
  obtain ⟨hi0, hi1⟩ := hi
  have hab : (a : Int) < 8 := by omega
  obtain ⟨c0, c1, c2, c3, clt⟩ := ccells hX
  obtain ⟨rv, hrv⟩ : ∃ rv, c.r a = rv := ⟨_, rfl⟩
  rw [hrv] at hra hrr
  obtain ⟨hr0, hr1⟩ := hrr
  have HRV := Lib.hid hrv
  have HX := Lib.hid hX
  clear hb0 hX hC1 hC hM hc hrv
  rcases (show op = 19 ∨ op = 20 ∨ op = 21 ∨ op = 22 ∨ op = 23 by omega) with rfl | rfl | rfl | rfl | rfl
  all_goals clear h0 h1
  · have hj : jumpP c 19 a im = (farP c im, c) := by unfold jumpP; simp
    rw [hj]
    clear hj
    go_enter Tryd.func34, Tryd.ntmps34
    go_wp2_with (go_quiet (fail))
    go_ret
    exact ⟨rfl, moved_below HC.out HM.out (below_drewN HB0.out _)⟩
  · by_cases hz : rv = 0
    · have hj : jumpP c 20 a im = (farP c im, c) := by unfold jumpP; simp [HRV.out, hz]
      rw [hj]
      have hzb : (rv == 0) = true := by simpa using hz
      clear hz
      clear hj
      go_enter Tryd.func34, Tryd.ntmps34
      go_wp2_with (go_quiet (fail))
      go_ret
      exact ⟨rfl, moved_below HC.out HM.out (below_drewN HB0.out _)⟩
    · have hj : jumpP c 20 a im = (nextP c, c) := by unfold jumpP; simp [HRV.out, hz]
      rw [hj]
      have hzb : (rv == 0) = false := by simpa using hz
      clear hz
      clear hj
      go_enter Tryd.func34, Tryd.ntmps34
      go_wp2_with (go_quiet (fail))
      go_ret
      exact ⟨rfl, moved_below HC.out HM.out (below_drewN HB0.out _)⟩
  · by_cases hz : rv = 0
    · have hj : jumpP c 21 a im = (nextP c, c) := by unfold jumpP; simp [HRV.out, hz]
      rw [hj]
      have hzb : (rv != 0) = false := by simpa using hz
      clear hz
      clear hj
      go_enter Tryd.func34, Tryd.ntmps34
      go_wp2_with (go_quiet (fail))
      go_ret
      exact ⟨rfl, moved_below HC.out HM.out (below_drewN HB0.out _)⟩
    · have hj : jumpP c 21 a im = (farP c im, c) := by unfold jumpP; simp [HRV.out, hz]
      rw [hj]
      have hzb : (rv != 0) = true := by simpa using hz
      clear hz
      clear hj
      go_enter Tryd.func34, Tryd.ntmps34
      go_wp2_with (go_quiet (fail))
      go_ret
      exact ⟨rfl, moved_below HC.out HM.out (below_drewN HB0.out _)⟩
  · have hj : jumpP c 22 a im = (farP c im, c.setR a (nextP c)) := by unfold jumpP; simp
    rw [hj]
    clear hj
    go_enter Tryd.func34, Tryd.ntmps34
    go_wp2_with (go_quiet (fail))
    rename Nat => nq
    have HBQ := Lib.hid (below_drewN HB0.out nq)
    have HCQ := Lib.hid (HC1.out.drewN nq)
    have HXQ := Lib.hid (HX.out.drewN nq)
    have HMQ := Lib.hid (HM.out.below HBQ.out)
    generalize (w.alloc (.cells #[.int .i64 22, .int .i64 (a : Int), .int .i64 xb, .int .i64 im] 38)).drewN nq = W1 at *
    clear c0 c1 c2 c3 clt hra hpc hltc
    obtain ⟨c0, c1, c2, c3, clt⟩ := ccells HXQ.out
    have hra := cp_reg HCQ.out ha
    have hfa := cp_fz HCQ.out a
    have hltc := HCQ.out.lt
    go_region
    all_goals
      go_wp2
      go_ret
      exact ⟨rfl, moved_reg HCQ.out HMQ.out HBQ.out hcg hcB ha (nextP c)⟩
  · have hj : jumpP c 23 a im = (c.r a, c) := by unfold jumpP; simp
    rw [hj, HRV.out]
    clear hj
    go_enter Tryd.func34, Tryd.ntmps34
    go_wp2_with (go_quiet (fail))
    go_ret
    exact ⟨rfl, moved_below HC.out HM.out (below_drewN HB0.out _)⟩
end
end Go.Proofs.YtoglmemmdolbmaaDoor
