/-
  What laws of chapter 07 keep of memories and registers. Condition: the start is parts that are words.
-/
import Derived.Laws.BytesArg
import Derived.Deep.RegionHeld3
import Derived.Test.YtoglmemmdolbmaaDoorCoQ
import Derived.Test.YtoglmemmdolbmaaDoorCoF
import Derived.Test.YtoglmemmdolbmaaDoorCoG
namespace Go.Proofs.YtoglmemmdolbmaaDoor
open Go.RowKit Go.Shelf
set_option linter.unusedVariables false
set_option linter.unusedSimpArgs false
attribute [local go_sem] Oper.semAt_some
attribute [local go_sem] run_store_complex
attribute [local irreducible] floatOfInt wz

structure StartOk (r : Nat → Int) (pc : Int) : Prop where
  r : ∀ k, 0 ≤ r k ∧ r k ≤ 4294967295
  pc : 0 ≤ pc ∧ pc ≤ 4294967295
theorem cpuS_ok {r : Nat → Int} {pc : Int} (h : StartOk r pc) (a b c d : Int) : (cpuS r a b c d pc).Ok := ⟨h.r, h.pc.1, h.pc.2⟩
theorem B.BytesAt.belowB {w w' : World} {A : Option Addr} {m : List Int} (h : B.BytesAt w A m) (hb : Below w.heap.size w w') : B.BytesAt w' A m := RowsAt.below h hb

/-- What lies in the rounds: the memory behind the step, the Cpu ahead of it, and behind it. -/
structure TI (w : World) (gc gn g Bk cap : Nat) (c n : Cp) (m : List Int) (W : World) : Prop where
  mm : RamAt W g (some ⟨Bk, 0, none⟩) Bk cap m
  cc : CpAt W gc c
  nn : CpAt W gn n
  b : Below w.heap.size w W
theorem TI.drewN {w : World} {gc gn g Bk cap : Nat} {c n : Cp} {m : List Int} {W : World} (h : TI w gc gn g Bk cap c n m W) (k : Nat) : TI w gc gn g Bk cap c n m (W.drewN k) :=
  ⟨h.mm.below (below_drewN (Below.refl _ _) k), h.cc.below (below_drewN (Below.refl _ _) k) h.cc.lt, h.nn.below (below_drewN (Below.refl _ _) k) h.nn.lt, below_drewN h.b k⟩

theorem TI.below {w : World} {gc gn g Bk cap : Nat} {c n : Cp} {m : List Int} {W W' : World} (h : TI w gc gn g Bk cap c n m W) (hb : Below W.heap.size W W') : TI w gc gn g Bk cap c n m W' :=
  ⟨h.mm.below hb, h.cc.below hb h.cc.lt, h.nn.below hb h.nn.lt, h.b.trans (hb.mono h.b.size)⟩
theorem conv7 {w : World} {A : Option Addr} {l : List Int} (h : B.BytesAt w A l) (c : Nat) : (convert 43 9 (.slice A l.length c)).run Tryd.prog w = .ok (.string (strOfNums l)) w := by
  cases l with
  | nil =>
    show (convert 43 9 (.slice A 0 c)).run Tryd.prog w = .ok (.string ByteArray.empty) w
    rw [run_convert_bytes_string w _ _ 5 _ 0 c Tryd.underlying43 Tryd.underlying5 Tryd.underlying9]
    cases A with
    | none => simp [Conv.bytesToString]
    | some a => rw [run_bytesToString w a 0 c [] (by rfl)]; rfl
  | cons x l =>
    obtain ⟨b, off, rfl, _, _⟩ := B.byte_at h (show (x :: l)[0]? = some x from rfl)
    refine run_convert_bytes_arg w _ 5 Tryd.underlying43 Tryd.underlying5 b off _ c (x :: l) rfl (fun i hi => ?_) _ Tryd.underlying9
    obtain ⟨b', off', hA, _, hc⟩ := B.byte_at h (List.getElem?_eq_getElem hi)
    injection hA with hA
    injection hA with e1 e2 _
    subst e1 e2
    rw [hc, List.getD_eq_getElem?_getD, List.getElem?_eq_getElem hi]; rfl
theorem ram_bytes {w : World} {g : Nat} {A : Option Addr} {Bk cap : Nat} {m : List Int} (h : RamAt w g A Bk cap m) : B.BytesAt w A m := fun i row hrow => by
  rw [List.getElem?_map] at hrow
  cases hx : m[i]? with
  | none => rw [hx] at hrow; cases hrow
  | some x =>
    rw [hx] at hrow
    injection hrow with hrow
    obtain ⟨hA, hl, hc, _⟩ := h.cell hx
    refine ⟨Bk, 0, hA, hl, fun j u hu => ?_⟩
    subst hrow
    cases j with
    | zero =>
      injection hu with hu
      rw [← hu, Nat.mul_one, Nat.zero_add, Nat.add_zero]
      exact hc
    | succ j => cases hu
theorem same_lit (c : Cp) (W : World) : Calls Tryd.prog 17 #[.agg #[.int .u32 (c.r 0), .int .u32 (c.r 1), .int .u32 (c.r 2), .int .u32 (c.r 3), .int .u32 (c.r 4), .int .u32 (c.r 5), .int .u32 (c.r 6), .int .u32 (c.r 7), .complex .f64 (c.z 0).1 (c.z 0).2, .complex .f64 (c.z 1).1 (c.z 1).2, .int .u32 c.pc], .agg #[.int .u32 (c.r 0), .int .u32 (c.r 1), .int .u32 (c.r 2), .int .u32 (c.r 3), .int .u32 (c.r 4), .int .u32 (c.r 5), .int .u32 (c.r 6), .int .u32 (c.r 7), .complex .f64 (c.z 0).1 (c.z 0).2, .complex .f64 (c.z 1).1 (c.z 1).2, .int .u32 c.pc]] W fun e w' => e = .returned (.bool true) ∧ Below W.heap.size W w' := same_self (w := W) c
/-- The bytes of one memory, but up to k those of another one where P says so. -/
def mixL (ma mb : List Int) (P : Nat → Prop) [DecidablePred P] (k : Nat) : List Int := (List.range ma.length).map (fun j => if j < k ∧ P j then ma.getD j 0 else mb.getD j 0)
theorem mix_len (ma mb : List Int) (P : Nat → Prop) [DecidablePred P] (k : Nat) : (mixL ma mb P k).length = ma.length := by unfold mixL; rw [List.length_map, List.length_range]
theorem mix_get (ma mb : List Int) (P : Nat → Prop) [DecidablePred P] (k i : Nat) (hi : i < ma.length) : (mixL ma mb P k)[i]? = some (if i < k ∧ P i then ma.getD i 0 else mb.getD i 0) := by
  unfold mixL
  rw [List.getElem?_map, List.getElem?_range hi]; rfl
theorem mix_zero (ma mb : List Int) (P : Nat → Prop) [DecidablePred P] (h : ma.length ≤ mb.length) : mixL ma mb P 0 = mb.take ma.length := by
  apply List.ext_getElem?
  intro i
  by_cases hi : i < ma.length
  · rw [mix_get _ _ _ _ _ hi, if_neg (by omega), List.getElem?_take_of_lt hi, List.getD_eq_getElem?_getD, List.getElem?_eq_getElem (by omega)]; rfl
  · rw [List.getElem?_eq_none (by rw [mix_len]; omega), List.getElem?_eq_none (by rw [List.length_take]; omega)]
theorem mix_yes (ma mb : List Int) (P : Nat → Prop) [DecidablePred P] {k : Nat} (hk : k < ma.length) (h : P k) : (mixL ma mb P k).set k (ma.getD k 0) = mixL ma mb P (k + 1) := by
  apply List.ext_getElem?
  intro i
  by_cases hi : i < ma.length
  · rw [List.getElem?_set, mix_len, mix_get _ _ _ _ _ hi, mix_get _ _ _ _ _ hi]
    by_cases hki : k = i
    · subst hki
      rw [if_pos rfl, if_pos hk, if_pos ⟨by omega, h⟩]
    · rw [if_neg hki]
      by_cases hp : i < k ∧ P i
      · rw [if_pos hp, if_pos ⟨by omega, hp.2⟩]
      · rw [if_neg hp, if_neg (fun hq => hp ⟨by omega, hq.2⟩)]
  · rw [List.getElem?_eq_none (by rw [List.length_set, mix_len]; omega), List.getElem?_eq_none (by rw [mix_len]; omega)]
theorem mix_no (ma mb : List Int) (P : Nat → Prop) [DecidablePred P] {k : Nat} (h : ¬ P k) : mixL ma mb P (k + 1) = mixL ma mb P k := by
  unfold mixL
  apply List.map_congr_left
  intro j _
  by_cases hp : j < k ∧ P j
  · rw [if_pos hp, if_pos ⟨by omega, hp.2⟩]
  · rw [if_neg hp, if_neg (fun hq => hp ⟨by
      by_cases hjk : j = k
      · subst hjk; exact absurd hq.2 h
      · omega, hq.2⟩)]
theorem getD_byte {m : List Int} (h : ∀ x ∈ m, 0 ≤ x ∧ x ≤ 255) (i : Nat) : 0 ≤ m.getD i 0 ∧ m.getD i 0 ≤ 255 := by
  rw [List.getD_eq_getElem?_getD]
  cases hx : m[i]? with
  | none => exact ⟨Int.le_refl 0, by decide⟩
  | some x => exact h x (List.mem_of_getElem? hx)
theorem mix_low (ma mb : List Int) (P : Nat → Prop) [DecidablePred P] (k : Nat) (ha : ∀ x ∈ ma, 0 ≤ x ∧ x ≤ 255) (hb : ∀ x ∈ mb, 0 ≤ x ∧ x ≤ 255) : ∀ x ∈ mixL ma mb P k, 0 ≤ x ∧ x ≤ 255 := fun x hx => by
  unfold mixL at hx
  obtain ⟨j, _, rfl⟩ := List.mem_map.1 hx
  split
  · exact getD_byte ha j
  · exact getD_byte hb j
theorem mix_all (ma mb : List Int) (P : Nat → Prop) [DecidablePred P] {i : Nat} (hi : i < ma.length) (h : P i) : (mixL ma mb P ma.length).getD i 0 = ma.getD i 0 := by
  rw [List.getD_eq_getElem?_getD, mix_get _ _ _ _ _ hi, if_pos ⟨hi, h⟩]; rfl
/-- The bytes that the other memory shares: those of the word, and those that are read. -/
def ShareP (pc : Int) (at' : Nat) (lg : Int) (k : Nat) : Prop := (pc ≤ (k : Int) ∧ (k : Int) < pc + 4) ∨ (0 < lg ∧ (at' : Int) ≤ (k : Int) ∧ (k : Int) < (at' : Int) + lg)
instance (pc : Int) (at' : Nat) (lg : Int) : DecidablePred (ShareP pc at' lg) := fun k => by unfold ShareP; infer_instance
theorem RowB.set {w : World} {Bo : Nat} {m : List Int} (h : RowB w (some ⟨Bo, 0, none⟩) Bo m) {a : Nat} (ha : a < m.length) (v : Int) : RowB (w.setCell ⟨Bo, a, none⟩ (.int .u8 v)) (some ⟨Bo, 0, none⟩) Bo (m.set a v) := by
  have hne : m ≠ [] := by rintro rfl; simp at ha
  obtain ⟨hA, cs, hb, hs, hc⟩ := h hne
  refine fun _ => ⟨hA, _, hb.set_ a _, by rw [List.length_set, Array.size_setIfInBounds]; exact hs, fun i x hx => ?_⟩
  rw [List.getElem?_set] at hx
  rw [Array.getElem?_setIfInBounds]
  by_cases hai : a = i
  · subst hai
    rw [if_pos rfl, if_pos ha] at hx
    rw [if_pos rfl, if_pos (by omega)]
    injection hx with hx
    rw [hx]
  · rw [if_neg hai] at hx ⊢
    exact hc i x hx
theorem RowB.get {w : World} {Bo : Nat} {m : List Int} (h : RowB w (some ⟨Bo, 0, none⟩) Bo m) {i : Nat} {x : Int} (hx : m[i]? = some x) : Bo < w.heap.size ∧ w.cell? ⟨Bo, i, none⟩ = some (.int .u8 x) ∧ w.frozen? ⟨Bo, i, none⟩ = false := by
  have hne : m ≠ [] := by rintro rfl; simp at hx
  obtain ⟨_, cs, hb, _, hc⟩ := h hne
  exact ⟨hb.lt, (hb.cell i).trans (hc i x hx), hb.frozen i⟩
theorem RowB.below {w w' : World} {A : Option Addr} {Bo : Nat} {m : List Int} (h : RowB w A Bo m) (hb : Below w.heap.size w w') : RowB w' A Bo m := fun hne => by
  obtain ⟨hA, cs, hc, rest⟩ := h hne
  exact ⟨hA, cs, hc.below hb hc.lt, rest⟩
theorem TI.but {w : World} {gc gn g Bk cap : Nat} {c n : Cp} {m : List Int} {W W' : World} {Bo : Nat} (h : TI w gc gn g Bk cap c n m W) (hb : But (fun k => k = Bo) W W') (h1 : gc ≠ Bo) (h2 : gn ≠ Bo) (h3 : g ≠ Bo) (h4 : Bk ≠ Bo) (h5 : w.heap.size ≤ Bo) : TI w gc gn g Bk cap c n m W' :=
  ⟨h.mm.but hb h3 h4, h.cc.but hb h1, h.nn.but hb h2, h.b.trans (hb.below (B := w.heap.size) (fun k hk => by omega) h.b.size)⟩
theorem wpList_copy_n {w : World} {ops : Array Oper} {rest : List Oper} {o : Oper} {a : Act} {Q : Exit → Act → World → Prop} (hgd : o.guard = none) (s x : Operand)
    (ho : o.op = .call { callee := .builtin .append, args := #[s, x], argTypes := #[43, 43] }) {g0 : Nat} (hs : a.eval s = .slice (some ⟨g0, 0, none⟩) 0 0) (hg : Blk w g0 5 #[]) (A : Option Addr) (c n : Nat) (m : List Int) (hn : m.length = n)
    (hx : a.eval x = .slice A n c) (hA : B.BytesAt w A m) (hl : m.length ≤ 1000000)
    (h : ∀ Bk cap w', RowB w' (some ⟨Bk, 0, none⟩) Bk m → n ≤ cap → g0 ≤ Bk → Bk < w'.heap.size → Below g0 w w' → wpList Tryd.prog ops Q rest (a.put o.dst (.slice (some ⟨Bk, 0, none⟩) n cap)) w') : wpList Tryd.prog ops Q (o :: rest) a w := by
  subst hn
  exact wpList_copy_bytes hgd s x ho hs hg A c m hx hA hl h
theorem bytes_take {w : World} {A : Option Addr} {m : List Int} (h : B.BytesAt w A m) (n : Nat) : B.BytesAt w A (m.take n) := fun i row hr => by
  rw [List.map_take] at hr
  have hi : i < n := by
    have := (List.getElem?_eq_some_iff.1 hr).1
    rw [List.length_take] at this
    omega
  rw [List.getElem?_take_of_lt hi] at hr
  exact h i row hr
theorem touch_range (c : Cp) (m : List Int) : (touchP c m).1 < 4294967296 ∧ 0 ≤ (touchP c m).2.1 ∧ (touchP c m).2.1 ≤ 4 := by
  unfold touchP
  split
  · unfold touchX
    split
    · refine ⟨at_lt _ _ _, ?_⟩
      dsimp only
      split <;> decide
    · exact ⟨by decide, by decide, by decide⟩
  · exact ⟨by decide, by decide, by decide⟩
end Go.Proofs.YtoglmemmdolbmaaDoor
