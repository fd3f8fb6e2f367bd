/-
  The law CoreTouches, walked: a step turns no byte but those that Touches tells, and hangs on no others. Condition: the tables lie as the program's text lays them; the start's parts are words; the bytes can be read.
-/
import Derived.Laws.BytesArg
import Derived.Deep.RegionHeld3
import Derived.Test.YtoglmemmdolbmaaGreatDoorCoC
import Derived.Test.YtoglmemmdolbmaaGreatDoorCoF
import Derived.Test.YtoglmemmdolbmaaGreatDoorCoG
namespace Go.Proofs.YtoglmemmdolbmaaGreatDoor
open Go.RowKit Go.Shelf
set_option linter.unusedVariables false
set_option linter.unusedSimpArgs false
attribute [local go_sem] Oper.semAt_some
attribute [local go_sem] run_store_complex
attribute [local irreducible] floatOfInt wz

structure StartOk (r : Nat → Int) (pc : Int) : Prop where
  r : ∀ k, 0 ≤ r k ∧ r k ≤ 4294967295
  pc : 0 ≤ pc ∧ pc ≤ 4294967295
theorem cpuS_ok {r : Nat → Int} {pc : Int} (h : StartOk r pc) (a b c d : Int) : (cpuS r a b c d pc).Ok := ⟨h.r, h.pc.1, h.pc.2⟩
theorem B.BytesAt.belowB {w w' : World} {A : Option Addr} {m : List Int} (h : B.BytesAt w A m) (hb : Below w.heap.size w w') : B.BytesAt w' A m := RowsAt.below h hb

/-- What lies in the rounds: the memory behind the step, the Cpu ahead of it, and behind it. -/
structure TI (w : World) (gc gn g Bk cap : Nat) (c n : Cp) (m : List Int) (W : World) : Prop where
  mm : RamAt W g (some ⟨Bk, 0, none⟩) Bk cap m
  cc : CpAt W gc c
  nn : CpAt W gn n
  b : Below w.heap.size w W
theorem TI.drewN {w : World} {gc gn g Bk cap : Nat} {c n : Cp} {m : List Int} {W : World} (h : TI w gc gn g Bk cap c n m W) (k : Nat) : TI w gc gn g Bk cap c n m (W.drewN k) :=
  ⟨h.mm.below (below_drewN (Below.refl _ _) k), h.cc.below (below_drewN (Below.refl _ _) k) h.cc.lt, h.nn.below (below_drewN (Below.refl _ _) k) h.nn.lt, below_drewN h.b k⟩

theorem TI.below {w : World} {gc gn g Bk cap : Nat} {c n : Cp} {m : List Int} {W W' : World} (h : TI w gc gn g Bk cap c n m W) (hb : Below W.heap.size W W') : TI w gc gn g Bk cap c n m W' :=
  ⟨h.mm.below hb, h.cc.below hb h.cc.lt, h.nn.below hb h.nn.lt, h.b.trans (hb.mono h.b.size)⟩
theorem conv7 {w : World} {A : Option Addr} {l : List Int} (h : B.BytesAt w A l) (c : Nat) : (convert 26 9 (.slice A l.length c)).run Tryz.prog w = .ok (.string (strOfNums l)) w := by
  cases l with
  | nil =>
    show (convert 26 9 (.slice A 0 c)).run Tryz.prog w = .ok (.string ByteArray.empty) w
    rw [run_convert_bytes_string w _ _ 5 _ 0 c Tryz.underlying26 Tryz.underlying5 Tryz.underlying9]
    cases A with
    | none => simp [Conv.bytesToString]
    | some a => rw [run_bytesToString w a 0 c [] (by rfl)]; rfl
  | cons x l =>
    obtain ⟨b, off, rfl, _, _⟩ := B.byte_at h (show (x :: l)[0]? = some x from rfl)
    refine run_convert_bytes_arg w _ 5 Tryz.underlying26 Tryz.underlying5 b off _ c (x :: l) rfl (fun i hi => ?_) _ Tryz.underlying9
    obtain ⟨b', off', hA, _, hc⟩ := B.byte_at h (List.getElem?_eq_getElem hi)
    injection hA with hA
    injection hA with e1 e2 _
    subst e1 e2
    rw [hc, List.getD_eq_getElem?_getD, List.getElem?_eq_getElem hi]; rfl
theorem ram_bytes {w : World} {g : Nat} {A : Option Addr} {Bk cap : Nat} {m : List Int} (h : RamAt w g A Bk cap m) : B.BytesAt w A m := fun i row hrow => by
  rw [List.getElem?_map] at hrow
  cases hx : m[i]? with
  | none => rw [hx] at hrow; cases hrow
  | some x =>
    rw [hx] at hrow
    injection hrow with hrow
    obtain ⟨hA, hl, hc, _⟩ := h.cell hx
    refine ⟨Bk, 0, hA, hl, fun j u hu => ?_⟩
    subst hrow
    cases j with
    | zero =>
      injection hu with hu
      rw [← hu, Nat.mul_one, Nat.zero_add, Nat.add_zero]
      exact hc
    | succ j => cases hu
theorem same_lit (c : Cp) (W : World) : Calls Tryz.prog 8 #[.agg #[.int .u32 (c.r 0), .int .u32 (c.r 1), .int .u32 (c.r 2), .int .u32 (c.r 3), .int .u32 (c.r 4), .int .u32 (c.r 5), .int .u32 (c.r 6), .int .u32 (c.r 7), .complex .f64 (c.z 0).1 (c.z 0).2, .complex .f64 (c.z 1).1 (c.z 1).2, .int .u32 c.pc], .agg #[.int .u32 (c.r 0), .int .u32 (c.r 1), .int .u32 (c.r 2), .int .u32 (c.r 3), .int .u32 (c.r 4), .int .u32 (c.r 5), .int .u32 (c.r 6), .int .u32 (c.r 7), .complex .f64 (c.z 0).1 (c.z 0).2, .complex .f64 (c.z 1).1 (c.z 1).2, .int .u32 c.pc]] W fun e w' => e = .returned (.bool true) ∧ Below W.heap.size W w' := same_self (w := W) c
/-- The bytes of one memory, but up to k those of another one where P says so. -/
def mixL (ma mb : List Int) (P : Nat → Prop) [DecidablePred P] (k : Nat) : List Int := (List.range ma.length).map (fun j => if j < k ∧ P j then ma.getD j 0 else mb.getD j 0)
theorem mix_len (ma mb : List Int) (P : Nat → Prop) [DecidablePred P] (k : Nat) : (mixL ma mb P k).length = ma.length := by unfold mixL; rw [List.length_map, List.length_range]
theorem mix_get (ma mb : List Int) (P : Nat → Prop) [DecidablePred P] (k i : Nat) (hi : i < ma.length) : (mixL ma mb P k)[i]? = some (if i < k ∧ P i then ma.getD i 0 else mb.getD i 0) := by
  unfold mixL
  rw [List.getElem?_map, List.getElem?_range hi]; rfl
theorem mix_zero (ma mb : List Int) (P : Nat → Prop) [DecidablePred P] (h : ma.length ≤ mb.length) : mixL ma mb P 0 = mb.take ma.length := by
  apply List.ext_getElem?
  intro i
  by_cases hi : i < ma.length
  · rw [mix_get _ _ _ _ _ hi, if_neg (by omega), List.getElem?_take_of_lt hi, List.getD_eq_getElem?_getD, List.getElem?_eq_getElem (by omega)]; rfl
  · rw [List.getElem?_eq_none (by rw [mix_len]; omega), List.getElem?_eq_none (by rw [List.length_take]; omega)]
theorem mix_yes (ma mb : List Int) (P : Nat → Prop) [DecidablePred P] {k : Nat} (hk : k < ma.length) (h : P k) : (mixL ma mb P k).set k (ma.getD k 0) = mixL ma mb P (k + 1) := by
  apply List.ext_getElem?
  intro i
  by_cases hi : i < ma.length
  · rw [List.getElem?_set, mix_len, mix_get _ _ _ _ _ hi, mix_get _ _ _ _ _ hi]
    by_cases hki : k = i
    · subst hki
      rw [if_pos rfl, if_pos hk, if_pos ⟨by omega, h⟩]
    · rw [if_neg hki]
      by_cases hp : i < k ∧ P i
      · rw [if_pos hp, if_pos ⟨by omega, hp.2⟩]
      · rw [if_neg hp, if_neg (fun hq => hp ⟨by omega, hq.2⟩)]
  · rw [List.getElem?_eq_none (by rw [List.length_set, mix_len]; omega), List.getElem?_eq_none (by rw [mix_len]; omega)]
theorem mix_no (ma mb : List Int) (P : Nat → Prop) [DecidablePred P] {k : Nat} (h : ¬ P k) : mixL ma mb P (k + 1) = mixL ma mb P k := by
  unfold mixL
  apply List.map_congr_left
  intro j _
  by_cases hp : j < k ∧ P j
  · rw [if_pos hp, if_pos ⟨by omega, hp.2⟩]
  · rw [if_neg hp, if_neg (fun hq => hp ⟨by
      by_cases hjk : j = k
      · subst hjk; exact absurd hq.2 h
      · omega, hq.2⟩)]
theorem getD_byte {m : List Int} (h : ∀ x ∈ m, 0 ≤ x ∧ x ≤ 255) (i : Nat) : 0 ≤ m.getD i 0 ∧ m.getD i 0 ≤ 255 := by
  rw [List.getD_eq_getElem?_getD]
  cases hx : m[i]? with
  | none => exact ⟨Int.le_refl 0, by decide⟩
  | some x => exact h x (List.mem_of_getElem? hx)
theorem mix_low (ma mb : List Int) (P : Nat → Prop) [DecidablePred P] (k : Nat) (ha : ∀ x ∈ ma, 0 ≤ x ∧ x ≤ 255) (hb : ∀ x ∈ mb, 0 ≤ x ∧ x ≤ 255) : ∀ x ∈ mixL ma mb P k, 0 ≤ x ∧ x ≤ 255 := fun x hx => by
  unfold mixL at hx
  obtain ⟨j, _, rfl⟩ := List.mem_map.1 hx
  split
  · exact getD_byte ha j
  · exact getD_byte hb j
theorem mix_all (ma mb : List Int) (P : Nat → Prop) [DecidablePred P] {i : Nat} (hi : i < ma.length) (h : P i) : (mixL ma mb P ma.length).getD i 0 = ma.getD i 0 := by
  rw [List.getD_eq_getElem?_getD, mix_get _ _ _ _ _ hi, if_pos ⟨hi, h⟩]; rfl
/-- The bytes that the other memory shares: those of the word, and those that are read. -/
def ShareP (pc : Int) (at' : Nat) (lg : Int) (k : Nat) : Prop := (pc ≤ (k : Int) ∧ (k : Int) < pc + 4) ∨ (0 < lg ∧ (at' : Int) ≤ (k : Int) ∧ (k : Int) < (at' : Int) + lg)
instance (pc : Int) (at' : Nat) (lg : Int) : DecidablePred (ShareP pc at' lg) := fun k => by unfold ShareP; infer_instance
theorem RowB.set {w : World} {Bo : Nat} {m : List Int} (h : RowB w (some ⟨Bo, 0, none⟩) Bo m) {a : Nat} (ha : a < m.length) (v : Int) : RowB (w.setCell ⟨Bo, a, none⟩ (.int .u8 v)) (some ⟨Bo, 0, none⟩) Bo (m.set a v) := by
  have hne : m ≠ [] := by rintro rfl; simp at ha
  obtain ⟨hA, cs, hb, hs, hc⟩ := h hne
  refine fun _ => ⟨hA, _, hb.set_ a _, by rw [List.length_set, Array.size_setIfInBounds]; exact hs, fun i x hx => ?_⟩
  rw [List.getElem?_set] at hx
  rw [Array.getElem?_setIfInBounds]
  by_cases hai : a = i
  · subst hai
    rw [if_pos rfl, if_pos ha] at hx
    rw [if_pos rfl, if_pos (by omega)]
    injection hx with hx
    rw [hx]
  · rw [if_neg hai] at hx ⊢
    exact hc i x hx
theorem RowB.get {w : World} {Bo : Nat} {m : List Int} (h : RowB w (some ⟨Bo, 0, none⟩) Bo m) {i : Nat} {x : Int} (hx : m[i]? = some x) : Bo < w.heap.size ∧ w.cell? ⟨Bo, i, none⟩ = some (.int .u8 x) ∧ w.frozen? ⟨Bo, i, none⟩ = false := by
  have hne : m ≠ [] := by rintro rfl; simp at hx
  obtain ⟨_, cs, hb, _, hc⟩ := h hne
  exact ⟨hb.lt, (hb.cell i).trans (hc i x hx), hb.frozen i⟩
theorem RowB.below {w w' : World} {A : Option Addr} {Bo : Nat} {m : List Int} (h : RowB w A Bo m) (hb : Below w.heap.size w w') : RowB w' A Bo m := fun hne => by
  obtain ⟨hA, cs, hc, rest⟩ := h hne
  exact ⟨hA, cs, hc.below hb hc.lt, rest⟩
theorem TI.but {w : World} {gc gn g Bk cap : Nat} {c n : Cp} {m : List Int} {W W' : World} {Bo : Nat} (h : TI w gc gn g Bk cap c n m W) (hb : But (fun k => k = Bo) W W') (h1 : gc ≠ Bo) (h2 : gn ≠ Bo) (h3 : g ≠ Bo) (h4 : Bk ≠ Bo) (h5 : w.heap.size ≤ Bo) : TI w gc gn g Bk cap c n m W' :=
  ⟨h.mm.but hb h3 h4, h.cc.but hb h1, h.nn.but hb h2, h.b.trans (hb.below (B := w.heap.size) (fun k hk => by omega) h.b.size)⟩
theorem wpList_copy_n {w : World} {ops : Array Oper} {rest : List Oper} {o : Oper} {a : Act} {Q : Exit → Act → World → Prop} (hgd : o.guard = none) (s x : Operand)
    (ho : o.op = .call { callee := .builtin .append, args := #[s, x], argTypes := #[26, 26] }) {g0 : Nat} (hs : a.eval s = .slice (some ⟨g0, 0, none⟩) 0 0) (hg : Blk w g0 5 #[]) (A : Option Addr) (c n : Nat) (m : List Int) (hn : m.length = n)
    (hx : a.eval x = .slice A n c) (hA : B.BytesAt w A m) (hl : m.length ≤ 1000000)
    (h : ∀ Bk cap w', RowB w' (some ⟨Bk, 0, none⟩) Bk m → n ≤ cap → g0 ≤ Bk → Bk < w'.heap.size → Below g0 w w' → wpList Tryz.prog ops Q rest (a.put o.dst (.slice (some ⟨Bk, 0, none⟩) n cap)) w') : wpList Tryz.prog ops Q (o :: rest) a w := by
  subst hn
  exact wpList_copy_bytes hgd s x ho hs hg A c m hx hA hl h
theorem bytes_take {w : World} {A : Option Addr} {m : List Int} (h : B.BytesAt w A m) (n : Nat) : B.BytesAt w A (m.take n) := fun i row hr => by
  rw [List.map_take] at hr
  have hi : i < n := by
    have := (List.getElem?_eq_some_iff.1 hr).1
    rw [List.length_take] at this
    omega
  rw [List.getElem?_take_of_lt hi] at hr
  exact h i row hr
theorem touch_range (c : Cp) (m : List Int) : (touchP c m).1 < 4294967296 ∧ 0 ≤ (touchP c m).2.1 ∧ (touchP c m).2.1 ≤ 4 := by
  unfold touchP
  split
  · unfold touchX
    split
    · refine ⟨at_lt _ _ _, ?_⟩
      dsimp only
      split <;> decide
    · exact ⟨by decide, by decide, by decide⟩
  · exact ⟨by decide, by decide, by decide⟩
set_option maxRecDepth 100000 in
set_option maxHeartbeats 16000000 in
theorem touchesLaw_any {w : World} (hG : I.Ground w) (r : Nat → Int) (a b c d pc : Int) (hs : StartOk r pc) (Aa : Option Addr) (ca : Nat) (ma : List Int) (hA : B.BytesAt w Aa ma) (ha : ∀ x ∈ ma, 0 ≤ x ∧ x ≤ 255)
    (Ab : Option Addr) (cb : Nat) (mb : List Int) (hB : B.BytesAt w Ab mb) (hb : ∀ x ∈ mb, 0 ≤ x ∧ x ≤ 255) (hla : ma.length ≤ maxLen) (hlb : mb.length ≤ maxLen) (hcb : mb.length ≤ cb) :
    Calls Tryz.prog 3 #[.agg (startArr r a b c d pc), .slice Aa ma.length ca, .slice Ab mb.length cb] w fun e w' => e = .returned (.bool true) ∧ Below w.heap.size w w' := by
  have HA := Lib.hid (fun W (hW : Below w.heap.size w W) => alive_any (hG.below hW))
  have HCPU := Lib.hid (fun W => cpu_any (w := W) r a b c d pc)
  have HG := Lib.hid hG
  have HOK := Lib.hid (cpuS_ok hs a b c d)
  have HBA := Lib.hid hA
  have HBB := Lib.hid hB
  have HLA := Lib.hid ha
  have HLB := Lib.hid hb
  obtain ⟨cc, hcc⟩ : ∃ cc, cc = cpuS r a b c d pc := ⟨_, rfl⟩
  rw [← hcc] at HCPU HOK
  have hX := Blk.new w 25 (startArr r a b c d pc)
  have HX := Lib.hid hX
  have HB0 := Lib.hid (bl_new (Below.refl w.heap.size w) (.cells (startArr r a b c d pc) 25))
  have hla' : (ma.length : Int) ≤ 9223372036854775807 := by unfold maxLen at hla; omega
  have hlb' : (mb.length : Int) ≤ 9223372036854775807 := by unfold maxLen at hlb; omega
  clear hG hs hA ha hB hb hla hlb hcc hX
  go_enter Tryz.func3, Tryz.ntmps3
  go_wp2_with (fail)
  refine (HA.out _ HB0.out).mono ?_
  rintro e W1 ⟨rfl, hb1⟩
  have HB1 := Lib.hid (bl_step HB0.out hb1)
  have HX1 := Lib.hid (HX.out.below hb1 HX.out.lt)
  clear hb1 HX HB0
  by_cases h1 : (2000 : Int) < (ma.length : Int)
  · go_wp2
    go_ret
    exact ⟨rfl, HB1.out⟩
  by_cases h2 : (mb.length : Int) < (ma.length : Int)
  · go_wp2
    go_ret
    exact ⟨rfl, HB1.out⟩
  by_cases h3 : (4000 : Int) < (mb.length : Int)
  · go_wp2
    go_ret
    exact ⟨rfl, HB1.out⟩
  have s0 := HX1.out.cell 0
  have s1 := HX1.out.cell 1
  have s2 := HX1.out.cell 2
  have s3 := HX1.out.cell 3
  have s4 := HX1.out.cell 4
  have s5 := HX1.out.cell 5
  have s6 := HX1.out.cell 6
  have s7 := HX1.out.cell 7
  have s8 := HX1.out.cell 8
  have s9 := HX1.out.cell 9
  have s10 := HX1.out.cell 10
  have s11 := HX1.out.cell 11
  have s12 := HX1.out.cell 12
  have slt := HX1.out.lt
  unfold startArr at *
  simp only [List.getElem?_toArray, List.getElem?_cons_zero, List.getElem?_cons_succ] at s0 s1 s2 s3 s4 s5 s6 s7 s8 s9 s10 s11 s12
  go_wp2_with (fail)
  refine (HCPU.out _).mono ?_
  rintro e W2 ⟨he, hb2⟩
  dsimp only [Cp.arr] at he
  subst he
  have HB2 := Lib.hid (bl_step HB1.out hb2)
  have HC2 := Lib.hid (Blk.new W2 31 cc.arr)
  clear s0 s1 s2 s3 s4 s5 s6 s7 s8 s9 s10 s11 s12 slt hb2 HX1 HB1
  have HZ := Lib.hid (show Blk ((W2.alloc (.cells #[.int .u32 (cc.r 0), .int .u32 (cc.r 1), .int .u32 (cc.r 2), .int .u32 (cc.r 3), .int .u32 (cc.r 4), .int .u32 (cc.r 5), .int .u32 (cc.r 6), .int .u32 (cc.r 7), .complex .f64 (cc.z 0).1 (cc.z 0).2, .complex .f64 (cc.z 1).1 (cc.z 1).2, .int .u32 cc.pc] 31)).alloc (.cells #[] 5)) (W2.heap.size + 1) 5 #[] from by
    have h := Blk.new (W2.alloc (.cells #[.int .u32 (cc.r 0), .int .u32 (cc.r 1), .int .u32 (cc.r 2), .int .u32 (cc.r 3), .int .u32 (cc.r 4), .int .u32 (cc.r 5), .int .u32 (cc.r 6), .int .u32 (cc.r 7), .complex .f64 (cc.z 0).1 (cc.z 0).2, .complex .f64 (cc.z 1).1 (cc.z 1).2, .int .u32 cc.pc] 31)) 5 #[]
    rw [World.size_alloc] at h
    exact h)
  have HBZ := Lib.hid (bl_new (bl_new HB2.out (.cells #[.int .u32 (cc.r 0), .int .u32 (cc.r 1), .int .u32 (cc.r 2), .int .u32 (cc.r 3), .int .u32 (cc.r 4), .int .u32 (cc.r 5), .int .u32 (cc.r 6), .int .u32 (cc.r 7), .complex .f64 (cc.z 0).1 (cc.z 0).2, .complex .f64 (cc.z 1).1 (cc.z 1).2, .int .u32 cc.pc] 31)) (.cells #[] 5))
  have HCZ := Lib.hid ((Blk.new W2 31 cc.arr).alloc (.cells #[] 5))
  have HGC := Lib.hid (show w.heap.size ≤ W2.heap.size from HB2.out.size)
  have hla2 : ma.length ≤ 1000000 := by omega
  go_wp2_with (at_builtin; refine wpList_copy_bytes rfl _ _ rfl rfl HZ.out _ _ ma rfl (HBA.out.belowB HBZ.out) hla2 ?_; intro Bk cap W3 hrow hcap hBk hBkl hbw; have HC3 := Lib.hid (HCZ.out.below hbw (Nat.lt_succ_self _)); have HB3 := Lib.hid (HBZ.out.trans (hbw.mono (Nat.le_succ_of_le HGC.out))); obtain ⟨x0, x1, x2, x3, x4, x5, x6, x7, x8, x9, x10, xlt⟩ := cp_all HC3.out)
  have HROW := Lib.hid hrow
  have HCAP := Lib.hid hcap
  have HBk := Lib.hid hBk
  have HBl := Lib.hid hBkl
  have hgB : W3.heap.size ≠ Bk := by omega
  have HGB := Lib.hid hgB
  clear hrow hcap hBk hBkl hbw x0 x1 x2 x3 x4 x5 x6 x7 x8 x9 x10 xlt HCZ HBZ HZ hgB
  have hnew := Blk.new W3 35 #[.slice (some ⟨Bk, 0, none⟩) ma.length cap]
  have hbn := bl_new (Below.refl W3.heap.size W3) (.cells #[.slice (some ⟨Bk, 0, none⟩) ma.length cap] 35)
  have HM4 := Lib.hid (show RamAt (W3.alloc (.cells #[.slice (some ⟨Bk, 0, none⟩) ma.length cap] 35)) W3.heap.size (some ⟨Bk, 0, none⟩) Bk cap ma from
    ⟨hnew, fun h => by
      obtain ⟨hA, cs, hc, rest⟩ := HROW.out h
      exact ⟨hA, cs, hc.below hbn hc.lt, rest⟩, HCAP.out, HGB.out, HLA.out, by omega⟩)
  have HB4 := Lib.hid (bl_new HB3.out (.cells #[.slice (some ⟨Bk, 0, none⟩) ma.length cap] 35))
  have HC4 := Lib.hid (HC3.out.alloc (.cells #[.slice (some ⟨Bk, 0, none⟩) ma.length cap] 35))
  have hz4 : Bk < (W3.alloc (.cells #[.slice (some ⟨Bk, 0, none⟩) ma.length cap] 35)).heap.size := by have := HBl.out; simp; omega
  have HZ4 := Lib.hid hz4
  have HG4 := Lib.hid (show W3.heap.size < (W3.alloc (.cells #[.slice (some ⟨Bk, 0, none⟩) ma.length cap] 35)).heap.size from by simp)
  clear hnew hbn hz4 HC3 HB3
  generalize W3.alloc (.cells #[.slice (some ⟨Bk, 0, none⟩) ma.length cap] 35) = W4 at *
  generalize W3.heap.size = g at *
  have htc := touch_any (w := W4) (HG.out.laid.below HB4.out) HM4.out HOK.out
  obtain ⟨⟨at', lg, wb⟩, htp⟩ : ∃ x, x = touchP cc ma := ⟨_, rfl⟩
  have HTP := Lib.hid htp
  rw [← htp] at htc
  have HTC := Lib.hid htc
  clear htp htc
  refine HTC.out.mono ?_
  rintro e W5 ⟨rfl, hb5⟩
  have HB5 := Lib.hid (bl_step HB4.out hb5)
  have HC5 := Lib.hid (HC4.out.below hb5 HC4.out.lt)
  have HM5 := Lib.hid (HM4.out.below hb5)
  have HZ5 := Lib.hid (show Bk < W5.heap.size from Nat.lt_of_lt_of_le HZ4.out hb5.size)
  have hst := step_any (w := W5) (HG.out.laid.below HB5.out) HM5.out HOK.out HZ5.out
  have hlen1 := step_len cc ma
  have htr := fun h => step_traps (c := cc) (m := ma) h
  have htu := fun i h => step_turns (c := cc) (m := ma) (i := i) h
  have hhg := fun o (hl : o.length = ma.length) => step_hangs (c := cc) (m := ma) (o := o) hl
  obtain ⟨hr0, hr1, hr2⟩ := touch_range cc ma
  rw [← HTP.out] at htu hhg hr0 hr1 hr2
  dsimp only at hr0 hr1 hr2
  have hr3 : (at' : Int) < 4294967296 := by omega
  clear hr0
  obtain ⟨⟨n1, t1, m1⟩, hs1⟩ : ∃ x, x = stepP cc ma := ⟨_, rfl⟩
  rw [← hs1] at hst hlen1 htr htu hhg
  dsimp only at hlen1 htr htu hhg
  have HST := Lib.hid (show Calls Tryz.prog 7 #[.agg #[.int .u32 (cc.r 0), .int .u32 (cc.r 1), .int .u32 (cc.r 2), .int .u32 (cc.r 3), .int .u32 (cc.r 4), .int .u32 (cc.r 5), .int .u32 (cc.r 6), .int .u32 (cc.r 7), .complex .f64 (cc.z 0).1 (cc.z 0).2, .complex .f64 (cc.z 1).1 (cc.z 1).2, .int .u32 cc.pc], .iface 33 (.pointer (some ⟨g, 0, none⟩))] W5 fun e w' => e = .returned (.tuple #[.agg #[.int .u32 (n1.r 0), .int .u32 (n1.r 1), .int .u32 (n1.r 2), .int .u32 (n1.r 3), .int .u32 (n1.r 4), .int .u32 (n1.r 5), .int .u32 (n1.r 6), .int .u32 (n1.r 7), .complex .f64 (n1.z 0).1 (n1.z 0).2, .complex .f64 (n1.z 1).1 (n1.z 1).2, .int .u32 n1.pc], .int .i64 t1]) ∧ RamAt w' g (some ⟨Bk, 0, none⟩) Bk cap m1 ∧ But (fun k => k = Bk) W5 w' from hst)
  have HTR := Lib.hid htr
  have HTU := Lib.hid htu
  have HHG := Lib.hid hhg
  have HL1 := Lib.hid hlen1
  obtain ⟨x0, x1, x2, x3, x4, x5, x6, x7, x8, x9, x10, xlt⟩ := cp_all HC5.out
  clear hst htr htu hhg hlen1 hs1 hb5 HTC HB4 HC4 HM4 HZ4
  go_wp2_with (fail)
  refine HST.out.mono ?_
  rintro e W6 ⟨rfl, hm6, hb6⟩
  have hgc : W2.heap.size ≠ Bk := by have := HBk.out; omega
  have HC6 := Lib.hid ((HC5.out.but hb6 hgc).alloc (.cells #[.int .u32 (n1.r 0), .int .u32 (n1.r 1), .int .u32 (n1.r 2), .int .u32 (n1.r 3), .int .u32 (n1.r 4), .int .u32 (n1.r 5), .int .u32 (n1.r 6), .int .u32 (n1.r 7), .complex .f64 (n1.z 0).1 (n1.z 0).2, .complex .f64 (n1.z 1).1 (n1.z 1).2, .int .u32 n1.pc] 31))
  have HN6 := Lib.hid (show Blk (W6.alloc (.cells #[.int .u32 (n1.r 0), .int .u32 (n1.r 1), .int .u32 (n1.r 2), .int .u32 (n1.r 3), .int .u32 (n1.r 4), .int .u32 (n1.r 5), .int .u32 (n1.r 6), .int .u32 (n1.r 7), .complex .f64 (n1.z 0).1 (n1.z 0).2, .complex .f64 (n1.z 1).1 (n1.z 1).2, .int .u32 n1.pc] 31)) W6.heap.size 31 n1.arr from Blk.new W6 31 n1.arr)
  have HM6 := Lib.hid (hm6.below (bl_new (Below.refl W6.heap.size W6) (.cells #[.int .u32 (n1.r 0), .int .u32 (n1.r 1), .int .u32 (n1.r 2), .int .u32 (n1.r 3), .int .u32 (n1.r 4), .int .u32 (n1.r 5), .int .u32 (n1.r 6), .int .u32 (n1.r 7), .complex .f64 (n1.z 0).1 (n1.z 0).2, .complex .f64 (n1.z 1).1 (n1.z 1).2, .int .u32 n1.pc] 31)))
  have HB6 := Lib.hid (bl_new (HB5.out.trans (hb6.below (B := w.heap.size) (fun k hk => by have := HBk.out; have := HGC.out; omega) HB5.out.size)) (.cells #[.int .u32 (n1.r 0), .int .u32 (n1.r 1), .int .u32 (n1.r 2), .int .u32 (n1.r 3), .int .u32 (n1.r 4), .int .u32 (n1.r 5), .int .u32 (n1.r 6), .int .u32 (n1.r 7), .complex .f64 (n1.z 0).1 (n1.z 0).2, .complex .f64 (n1.z 1).1 (n1.z 1).2, .int .u32 n1.pc] 31))
  clear x0 x1 x2 x3 x4 x5 x6 x7 x8 x9 x10 xlt hm6 hb6 hgc HST HC5 HM5 HB5 HZ5
  go_wp2_with (fail)
  generalize W6.alloc (.cells #[.int .u32 (n1.r 0), .int .u32 (n1.r 1), .int .u32 (n1.r 2), .int .u32 (n1.r 3), .int .u32 (n1.r 4), .int .u32 (n1.r 5), .int .u32 (n1.r 6), .int .u32 (n1.r 7), .complex .f64 (n1.z 0).1 (n1.z 0).2, .complex .f64 (n1.z 1).1 (n1.z 1).2, .int .u32 n1.pc] 31) = W7 at *
  have HTI := Lib.hid (show TI w W2.heap.size W6.heap.size g Bk cap cc n1 m1 W7 from ⟨HM6.out, HC6.out, HN6.out, HB6.out⟩)
  clear HM6 HC6 HN6 HB6
  generalize W6.heap.size = gn at *
  go_loopw [15] (fun i wr => ∃ k : Nat, i = .int .i64 (k : Int) ∧ k ≤ ma.length ∧ TI w W2.heap.size gn g Bk cap cc n1 m1 wr) (fun i _ => ma.length - (intOf i).toNat)
  case atStart => exact ⟨0, rfl, Nat.zero_le _, HTI.out⟩
  case round =>
    obtain ⟨k, rfl, hk, hti⟩ := hrel
    have TT := Lib.hid hti
    clear hti
    by_cases hkl : k < ma.length
    · have hki : (k : Int) < (ma.length : Int) := by omega
      obtain ⟨x, hx⟩ : ∃ x, ma[k]? = some x := ⟨_, List.getElem?_eq_getElem hkl⟩
      obtain ⟨y, hy⟩ : ∃ y, m1[k]? = some y := ⟨_, List.getElem?_eq_getElem (by rw [HL1.out]; exact hkl)⟩
      have hxg : ma.getD k 0 = x := by rw [List.getD_eq_getElem?_getD, hx]; rfl
      have hyg : m1.getD k 0 = y := by rw [List.getD_eq_getElem?_getD, hy]; rfl
      obtain ⟨ba, oa, rfl, hal, hac⟩ := B.byte_at (HBA.out.belowB TT.out.b) hx
      obtain ⟨_, hBl7, hbc, _⟩ := TT.out.mm.cell hy
      have g0 := TT.out.mm.p.cell 0
      have glt := TT.out.mm.p.lt
      simp only [List.getElem?_toArray, List.getElem?_cons_zero] at g0
      rw [HL1.out] at g0
      have HT1 := Lib.hid (HTU.out k)
      rw [hxg, hyg] at HT1
      clear hx hy hxg hyg
      by_cases hxy : y = x
      · subst hxy
        clear HT1
        cases wb
        · go_wp2_with (go_quiet (fail))
          all_goals exact ⟨⟨k + 1, by simp, by omega, TT.out.drewN _⟩, by simp [intOf]; omega⟩
        · by_cases q1 : (at' : Int) ≤ (k : Int)
          · by_cases q2 : (k : Int) < (at' : Int) + lg
            all_goals
              go_wp2_with (go_quiet (fail))
              all_goals exact ⟨⟨k + 1, by simp, by omega, TT.out.drewN _⟩, by simp [intOf]; omega⟩
          · go_wp2_with (go_quiet (fail))
            all_goals exact ⟨⟨k + 1, by simp, by omega, TT.out.drewN _⟩, by simp [intOf]; omega⟩
      · have hyx : (y != x) = true := by simpa using hxy
        obtain ⟨hw, h1, h2⟩ := HT1.out hxy
        subst hw
        have h1i : (at' : Int) ≤ (k : Int) := by omega
        clear hxy h1 HT1
        go_wp2_with (go_quiet (fail))
        all_goals exact ⟨⟨k + 1, by simp, by omega, TT.out.drewN _⟩, by simp [intOf]; omega⟩
    · have hkk : k = ma.length := by omega
      subst hkk
      clear hk hkl
      go_upto_region 14 with (fail)
      by_cases ht : t1 = 0
      · subst ht
        refine wp_region_held_drew (S := (fun W => TI w W2.heap.size gn g Bk cap cc n1 m1 W)) (by kernel_rfl) (TT.out.below (Below.refl _ _).drew) (fun hS => ?_)
        refine wpAnyH_take (i := 0) (v := ?_) rfl (by kernel_rfl) (by kernel_rfl) (by kernel_rfl) (fun _ _ _ h => h) (Or.inl ⟨by kernel_rfl, ?_⟩) hS ?_
        rotate_left 1
        · intro w hT
          go_simp
          all_goals with_reducible rfl
        refine wpAnyH_take (i := 1) (v := ?_) rfl (by kernel_rfl) (by kernel_rfl) (by kernel_rfl) (fun _ _ _ h => h) (Or.inl ⟨by kernel_rfl, ?_⟩) hS ?_
        rotate_left 1
        · intro w hT
          go_simp
          all_goals with_reducible rfl
        refine wpAnyH_take (i := 2) (v := ?_) rfl (by kernel_rfl) (by kernel_rfl) (by kernel_rfl) (fun _ _ _ h => h) (Or.inl ⟨by kernel_rfl, ?_⟩) hS ?_
        rotate_left 1
        · intro w hT
          go_simp
          all_goals with_reducible rfl
        refine wpAnyH_take (i := 3) (v := undef) rfl (by kernel_rfl) (by kernel_rfl) (by kernel_rfl) (fun _ _ _ h => h) (Or.inr ⟨by kernel_rfl, rfl⟩) hS ?_
        refine wpAnyH_take (i := 4) (v := undef) rfl (by kernel_rfl) (by kernel_rfl) (by kernel_rfl) (fun _ _ _ h => h) (Or.inr ⟨by kernel_rfl, rfl⟩) hS ?_
        refine wpAnyH_take (i := 5) (v := undef) rfl (by kernel_rfl) (by kernel_rfl) (by kernel_rfl) (fun _ _ _ h => h) (Or.inr ⟨by kernel_rfl, rfl⟩) hS ?_
        refine wpAnyH_take (i := 6) (v := undef) rfl (by kernel_rfl) (by kernel_rfl) (by kernel_rfl) (fun _ _ _ h => h) (Or.inr ⟨by kernel_rfl, rfl⟩) hS ?_
        refine wpAnyH_take (i := 7) (v := undef) rfl (by kernel_rfl) (by kernel_rfl) (by kernel_rfl) (fun _ _ _ h => h) (Or.inr ⟨by kernel_rfl, rfl⟩) hS ?_
        refine wpAnyH_take (i := 8) (v := undef) rfl (by kernel_rfl) (by kernel_rfl) (by kernel_rfl) (fun _ _ _ h => h) (Or.inr ⟨by kernel_rfl, rfl⟩) hS ?_
        refine wpAnyH_take (i := 9) (v := undef) rfl (by kernel_rfl) (by kernel_rfl) (by kernel_rfl) (fun _ _ _ h => h) (Or.inr ⟨by kernel_rfl, rfl⟩) hS ?_
        refine wpAnyH_take (i := 10) (v := undef) rfl (by kernel_rfl) (by kernel_rfl) (by kernel_rfl) (fun _ _ _ h => h) (Or.inr ⟨by kernel_rfl, rfl⟩) hS ?_
        refine wpAnyH_take (i := 11) (v := undef) rfl (by kernel_rfl) (by kernel_rfl) (by kernel_rfl) (fun _ _ _ h => h) (Or.inr ⟨by kernel_rfl, rfl⟩) hS ?_
        refine wpAnyH_take (i := 12) (v := undef) rfl (by kernel_rfl) (by kernel_rfl) (by kernel_rfl) (fun _ _ _ h => h) (Or.inr ⟨by kernel_rfl, rfl⟩) hS ?_
        refine wpAnyH_take (i := 13) (v := undef) rfl (by kernel_rfl) (by kernel_rfl) (by kernel_rfl) (fun _ _ _ h => h) (Or.inr ⟨by kernel_rfl, rfl⟩) hS ?_
        refine wpAnyH_take (i := 14) (v := undef) rfl (by kernel_rfl) (by kernel_rfl) (by kernel_rfl) (fun _ _ _ h => h) (Or.inr ⟨by kernel_rfl, rfl⟩) hS ?_
        refine wpAnyH_take (i := 15) (v := undef) rfl (by kernel_rfl) (by kernel_rfl) (by kernel_rfl) (fun _ _ _ h => h) (Or.inr ⟨by kernel_rfl, rfl⟩) hS ?_
        refine wpAnyH_take (i := 16) (v := undef) rfl (by kernel_rfl) (by kernel_rfl) (by kernel_rfl) (fun _ _ _ h => h) (Or.inr ⟨by kernel_rfl, rfl⟩) hS ?_
        refine wpAnyH_take (i := 17) (v := ?_) rfl (by kernel_rfl) (by kernel_rfl) (by kernel_rfl) (fun _ _ _ h => h) (Or.inl ⟨by kernel_rfl, ?_⟩) hS ?_
        rotate_left 1
        · intro w hT
          go_simp
          all_goals with_reducible rfl
        refine wpAnyH_done (by kernel_rfl) ?_ _
        have TZ := Lib.hid hS
        clear hS
        go_simp
        have hmb : ma.length ≤ mb.length := by omega
        have hmc : ma.length ≤ cb := by omega
        go_upto_region 16 with (fail)
        generalize wr.drew = wz at *
        have hgg := TZ.out.mm.p.lt
        have hggc := TZ.out.cc.lt
        have hggn := TZ.out.nn.lt
        have hgb := TZ.out.b.size
        have hmi : (ma.length : Int) ≤ (mb.length : Int) := by omega
        have hmci : (ma.length : Int) ≤ (cb : Int) := by omega
        have hla4 : (mb.take ma.length).length ≤ 1000000 := by rw [List.length_take]; omega
        have HZ2 := Lib.hid (Blk.new wz 5 #[])
        have HTK := Lib.hid (show (mb.take ma.length).length = ma.length from by rw [List.length_take]; omega)
        have HBT := Lib.hid (bytes_take (HBB.out.belowB (bl_new TZ.out.b (.cells #[] 5))) ma.length)
        go_wp2_with (at_builtin; refine wpList_copy_n rfl _ _ rfl rfl HZ2.out _ _ _ (mb.take ma.length) HTK.out rfl HBT.out hla4 ?_; intro Bo cap2 W8 hrow8 hcap8 hBo8 hBol8 hbw8)
        have TZ8 := Lib.hid (TZ.out.below ((bl_new (Below.refl wz.heap.size wz) (.cells #[] 5)).trans hbw8))
        have HOW8 := Lib.hid (show RowB W8 (some ⟨Bo, 0, none⟩) Bo (mixL ma mb (ShareP cc.pc at' lg) 0) from by rw [mix_zero _ _ _ hmb]; exact hrow8)
        have HCAP8 := Lib.hid hcap8
        have HNE := Lib.hid (show W2.heap.size ≠ Bo ∧ gn ≠ Bo ∧ g ≠ Bo ∧ Bk ≠ Bo ∧ w.heap.size ≤ Bo ∧ 0 < w.heap.size from by
          have h3 := HG.out.laid.klt
          have h4 := HBl.out
          refine ⟨by omega, by omega, by omega, by omega, by omega, h3⟩)
        have hp0 := HOK.out.p0
        have hp1 := HOK.out.p1
        have HBOL := Lib.hid hBol8
        clear hrow8 hcap8 hBo8 hBol8 hbw8 TZ HZ2 HTK HBT hgg hggc hggn hgb
        go_loopw [18] (fun i wr => ∃ k : Nat, i = .int .i64 (k : Int) ∧ k ≤ ma.length ∧ TI w W2.heap.size gn g Bk cap cc n1 m1 wr ∧ RowB wr (some ⟨Bo, 0, none⟩) Bo (mixL ma mb (ShareP cc.pc at' lg) k) ∧ Bo < wr.heap.size) (fun i _ => ma.length - (intOf i).toNat)
        case atStart => exact ⟨0, rfl, Nat.zero_le _, TZ8.out, HOW8.out, HBOL.out⟩
        case round =>
          obtain ⟨k, rfl, hk, hti, hrow, hbl⟩ := hrel
          have TT2 := Lib.hid hti
          have RR := Lib.hid hrow
          have BL := Lib.hid hbl
          clear hti hrow hbl TZ8 HOW8 HBOL
          obtain ⟨x0, x1, x2, x3, x4, x5, x6, x7, x8, x9, x10, xlt⟩ := cp_all TT2.out.cc
          by_cases hkl : k < ma.length
          · have hki : (k : Int) < (ma.length : Int) := by omega
            obtain ⟨x, hx⟩ : ∃ x, ma[k]? = some x := ⟨_, List.getElem?_eq_getElem hkl⟩
            have hxg : ma.getD k 0 = x := by rw [List.getD_eq_getElem?_getD, hx]; rfl
            obtain ⟨ba, oa, hAa, hal, hac⟩ := B.byte_at (HBA.out.belowB TT2.out.b) hx
            obtain ⟨hob, hoc, hof⟩ := RR.out.get (mix_get ma mb (ShareP cc.pc at' lg) k k hkl)
            have HYES := Lib.hid (fun hp : ShareP cc.pc at' lg k => show TI w W2.heap.size gn g Bk cap cc n1 m1 (wr.setCell ⟨Bo, k, none⟩ (.int .u8 x)) ∧ RowB (wr.setCell ⟨Bo, k, none⟩ (.int .u8 x)) (some ⟨Bo, 0, none⟩) Bo (mixL ma mb (ShareP cc.pc at' lg) (k + 1)) ∧ Bo < (wr.setCell ⟨Bo, k, none⟩ (.int .u8 x)).heap.size from
              ⟨TT2.out.but (But.setCell (S := fun k => k = Bo) (But.refl _ wr) (p := ⟨Bo, k, none⟩) (.inl rfl) _) HNE.out.1 HNE.out.2.1 HNE.out.2.2.1 HNE.out.2.2.2.1 HNE.out.2.2.2.2.1, by
                have h := RR.out.set (a := k) (by rw [mix_len]; exact hkl) x
                rw [← hxg, mix_yes _ _ _ hkl hp] at h
                rw [hxg] at h
                exact h, by simpa using BL.out⟩)
            have HNO := Lib.hid (fun hp : ¬ ShareP cc.pc at' lg k => show RowB wr (some ⟨Bo, 0, none⟩) Bo (mixL ma mb (ShareP cc.pc at' lg) (k + 1)) from by rw [mix_no _ _ _ hp]; exact RR.out)
            subst hAa
            clear hx hxg
            generalize (if k < k ∧ ShareP cc.pc at' lg k then ma.getD k 0 else mb.getD k 0) = oldv at *
            have hcs : (cc.pc ≤ (k : Int) ∧ (k : Int) < cc.pc + 4) ∨ ((cc.pc ≤ (k : Int) ∧ ¬ (k : Int) < cc.pc + 4) ∨ ¬ cc.pc ≤ (k : Int)) := by omega
            have hls : (0 < lg ∧ (at' : Int) ≤ (k : Int) ∧ (k : Int) < (at' : Int) + lg) ∨ (0 < lg ∧ (at' : Int) ≤ (k : Int) ∧ ¬ (k : Int) < (at' : Int) + lg) ∨ (0 < lg ∧ ¬ (at' : Int) ≤ (k : Int)) ∨ ¬ 0 < lg := by omega
            have HCS := Lib.hid hcs
            have HLS := Lib.hid hls
            clear hcs hls
            rcases HCS.out with ⟨p1, p2⟩ | h
            · go_wp2
              exact ⟨⟨k + 1, by simp, by omega, (HYES.out (by unfold ShareP; omega)).1, (HYES.out (by unfold ShareP; omega)).2.1, (HYES.out (by unfold ShareP; omega)).2.2⟩, by simp [intOf]; omega⟩
            · rcases h with ⟨p1, p2⟩ | p1
              all_goals
                rcases HLS.out with ⟨q0, q1, q2⟩ | ⟨q0, q1, q2⟩ | ⟨q0, q1⟩ | q0
                · go_wp2
                  exact ⟨⟨k + 1, by simp, by omega, (HYES.out (by unfold ShareP; omega)).1, (HYES.out (by unfold ShareP; omega)).2.1, (HYES.out (by unfold ShareP; omega)).2.2⟩, by simp [intOf]; omega⟩
                all_goals
                  go_wp2
                  exact ⟨⟨k + 1, by simp, by omega, TT2.out, HNO.out (by unfold ShareP; omega), BL.out⟩, by simp [intOf]; omega⟩
          · have hkk : k = ma.length := by omega
            subst hkk
            clear hk hkl
            have hml := mix_len ma mb (ShareP cc.pc at' lg) ma.length
            have hnew := Blk.new wr 35 #[.slice (some ⟨Bo, 0, none⟩) ma.length cap2]
            have hbn := bl_new (Below.refl wr.heap.size wr) (.cells #[.slice (some ⟨Bo, 0, none⟩) ma.length cap2] 35)
            have HM9 := Lib.hid (show RamAt (wr.alloc (.cells #[.slice (some ⟨Bo, 0, none⟩) ma.length cap2] 35)) wr.heap.size (some ⟨Bo, 0, none⟩) Bo cap2 (mixL ma mb (ShareP cc.pc at' lg) ma.length) from
              ⟨by rw [hml]; exact hnew, RR.out.below hbn, by rw [hml]; exact HCAP8.out, by have := BL.out; omega, mix_low _ _ _ _ HLA.out HLB.out, by rw [hml]; omega⟩)
            have TT9 := Lib.hid (TT2.out.below hbn)
            have HZ9 := Lib.hid (show Bo < (wr.alloc (.cells #[.slice (some ⟨Bo, 0, none⟩) ma.length cap2] 35)).heap.size from by have := BL.out; simp; omega)
            clear hnew hbn hml
            go_wp2_with (fail)
            generalize wr.alloc (.cells #[.slice (some ⟨Bo, 0, none⟩) ma.length cap2] 35) = W9 at *
            have hst := step_any (w := W9) (HG.out.laid.below TT9.out.b) HM9.out HOK.out HZ9.out
            obtain ⟨hq1, hq2⟩ := HHG.out (mixL ma mb (ShareP cc.pc at' lg) ma.length) (mix_len _ _ _ _) (fun i h1 h2 h3 => mix_all _ _ _ h3 (.inl ⟨by omega, by omega⟩)) (fun h0 i h1 h2 h3 => mix_all _ _ _ h3 (.inr ⟨h0, by omega, h2⟩))
            obtain ⟨⟨p2, t2, m2⟩, hs2⟩ : ∃ x, x = stepP cc (mixL ma mb (ShareP cc.pc at' lg) ma.length) := ⟨_, rfl⟩
            rw [← hs2] at hst hq1 hq2
            clear hs2
            dsimp only at hq1 hq2
            rw [hq1, hq2] at hst
            clear hq1 hq2
            have HST := Lib.hid (show Calls Tryz.prog 7 #[.agg #[.int .u32 (cc.r 0), .int .u32 (cc.r 1), .int .u32 (cc.r 2), .int .u32 (cc.r 3), .int .u32 (cc.r 4), .int .u32 (cc.r 5), .int .u32 (cc.r 6), .int .u32 (cc.r 7), .complex .f64 (cc.z 0).1 (cc.z 0).2, .complex .f64 (cc.z 1).1 (cc.z 1).2, .int .u32 cc.pc], .iface 33 (.pointer (some ⟨wr.heap.size, 0, none⟩))] W9 fun e w' => e = .returned (.tuple #[.agg #[.int .u32 (n1.r 0), .int .u32 (n1.r 1), .int .u32 (n1.r 2), .int .u32 (n1.r 3), .int .u32 (n1.r 4), .int .u32 (n1.r 5), .int .u32 (n1.r 6), .int .u32 (n1.r 7), .complex .f64 (n1.z 0).1 (n1.z 0).2, .complex .f64 (n1.z 1).1 (n1.z 1).2, .int .u32 n1.pc], .int .i64 0]) ∧ RamAt w' wr.heap.size (some ⟨Bo, 0, none⟩) Bo cap2 m2 ∧ But (fun k => k = Bo) W9 w' from hst)
            clear hst
            refine HST.out.mono ?_
            rintro e W10 ⟨rfl, hm10, hb10⟩
            have TTa := Lib.hid (TT9.out.but hb10 HNE.out.1 HNE.out.2.1 HNE.out.2.2.1 HNE.out.2.2.2.1 HNE.out.2.2.2.2.1)
            have hbn := bl_new (Below.refl W10.heap.size W10) (.cells #[.int .u32 (n1.r 0), .int .u32 (n1.r 1), .int .u32 (n1.r 2), .int .u32 (n1.r 3), .int .u32 (n1.r 4), .int .u32 (n1.r 5), .int .u32 (n1.r 6), .int .u32 (n1.r 7), .complex .f64 (n1.z 0).1 (n1.z 0).2, .complex .f64 (n1.z 1).1 (n1.z 1).2, .int .u32 n1.pc] 31)
            have HPN := Lib.hid (show Blk (W10.alloc (.cells #[.int .u32 (n1.r 0), .int .u32 (n1.r 1), .int .u32 (n1.r 2), .int .u32 (n1.r 3), .int .u32 (n1.r 4), .int .u32 (n1.r 5), .int .u32 (n1.r 6), .int .u32 (n1.r 7), .complex .f64 (n1.z 0).1 (n1.z 0).2, .complex .f64 (n1.z 1).1 (n1.z 1).2, .int .u32 n1.pc] 31)) W10.heap.size 31 n1.arr from Blk.new W10 31 n1.arr)
            have TTb := Lib.hid (TTa.out.below hbn)
            clear hm10 hb10 hbn x0 x1 x2 x3 x4 x5 x6 x7 x8 x9 x10 xlt HST TT9 HM9 HZ9
            have HSM := Lib.hid (fun W => same_lit n1 W)
            go_upto_region 24 with (fail)
            generalize W10.alloc (.cells #[.int .u32 (n1.r 0), .int .u32 (n1.r 1), .int .u32 (n1.r 2), .int .u32 (n1.r 3), .int .u32 (n1.r 4), .int .u32 (n1.r 5), .int .u32 (n1.r 6), .int .u32 (n1.r 7), .complex .f64 (n1.z 0).1 (n1.z 0).2, .complex .f64 (n1.z 1).1 (n1.z 1).2, .int .u32 n1.pc] 31) = W11 at *
            have hpl := HPN.out.lt
            obtain ⟨x0, x1, x2, x3, x4, x5, x6, x7, x8, x9, x10, xlt⟩ := cp_all HPN.out
            obtain ⟨y0, y1, y2, y3, y4, y5, y6, y7, y8, y9, y10, ylt⟩ := cp_all TTb.out.nn
            go_wp2_with (fail)
            refine (HSM.out _).mono ?_
            rintro e W12 ⟨rfl, hb12⟩
            have HBf := Lib.hid (bl_step TTb.out.b hb12)
            clear hb12
            go_wp2
            go_ret
            exact ⟨rfl, HBf.out⟩
      · have htb : (t1 != 0) = true := by simpa using ht
        obtain ⟨rfl, rfl⟩ := HTR.out ht
        clear ht
        have HSAME := Lib.hid (fun W => same_lit n1 W)
        refine wp_region_held_drew (S := (fun W => TI w W2.heap.size gn g Bk cap n1 n1 m1 W)) (by kernel_rfl) (TT.out.below (Below.refl _ _).drew) (fun hS => ?_)
        refine wpAnyH_take (i := 0) (v := ?_) rfl (by kernel_rfl) (by kernel_rfl) (by kernel_rfl) (fun _ _ _ h => h) (Or.inl ⟨by kernel_rfl, ?_⟩) hS ?_
        rotate_left 1
        · intro w hT
          go_simp
          all_goals with_reducible rfl
        refine wpAnyH_take (i := 1) (v := ?_) rfl (by kernel_rfl) (by kernel_rfl) (by kernel_rfl) (fun _ _ _ h => h) (Or.inl ⟨by kernel_rfl, ?_⟩) hS ?_
        rotate_left 1
        · intro w hT
          go_simp
          all_goals with_reducible rfl
        refine wpAnyH_take (i := 2) (v := ?_) rfl (by kernel_rfl) (by kernel_rfl) (by kernel_rfl) (fun _ _ _ h => h) (Or.inl ⟨by kernel_rfl, ?_⟩) hS ?_
        rotate_left 1
        · intro w hT
          go_simp
          all_goals with_reducible rfl
        refine wpAnyH_take (i := 3) (v := ?_) rfl (by kernel_rfl) (by kernel_rfl) (by kernel_rfl) (fun _ _ _ h => h) (Or.inl ⟨by kernel_rfl, ?_⟩) hS ?_
        rotate_left 1
        · intro w hT
          go_simp
          all_goals with_reducible rfl
        refine wpAnyH_take (i := 4) (v := ?_) rfl (by kernel_rfl) (by kernel_rfl) (by kernel_rfl) (fun _ _ _ h => h) (Or.inl ⟨by kernel_rfl, ?_⟩) hS ?_
        rotate_left 1
        · intro w hT
          go_simp
          all_goals with_reducible rfl
        refine wpAnyH_take (i := 5) (v := ?_) rfl (by kernel_rfl) (by kernel_rfl) (by kernel_rfl) (fun _ _ _ h => h) (Or.inl ⟨by kernel_rfl, ?_⟩) hS ?_
        rotate_left 1
        · intro w hT
          go_simp
          all_goals with_reducible rfl
        refine wpAnyH_take (i := 6) (v := ?_) rfl (by kernel_rfl) (by kernel_rfl) (by kernel_rfl) (fun _ _ _ h => h) (Or.inl ⟨by kernel_rfl, ?_⟩) hS ?_
        rotate_left 1
        · intro w hT
          have g0 := hT.mm.p.cell 0
          simp only [List.getElem?_toArray, List.getElem?_cons_zero] at g0
          go_simp
          all_goals with_reducible rfl
        refine wpAnyH_take (i := 7) (v := ?_) rfl (by kernel_rfl) (by kernel_rfl) (by kernel_rfl) (fun _ _ _ h => h) (Or.inl ⟨by kernel_rfl, ?_⟩) hS ?_
        rotate_left 1
        · intro w hT
          have hv := conv7 (ram_bytes hT.mm) cap
          go_simp
          all_goals with_reducible rfl
        refine wpAnyH_take (i := 8) (v := ?_) rfl (by kernel_rfl) (by kernel_rfl) (by kernel_rfl) (fun _ _ _ h => h) (Or.inl ⟨by kernel_rfl, ?_⟩) hS ?_
        rotate_left 1
        · intro w hT
          go_simp
          all_goals with_reducible rfl
        refine wpAnyH_take (i := 9) (v := ?_) rfl (by kernel_rfl) (by kernel_rfl) (by kernel_rfl) (fun _ _ _ h => h) (Or.inl ⟨by kernel_rfl, ?_⟩) hS ?_
        rotate_left 1
        · intro w hT
          have hv := conv7 (HBA.out.belowB hT.b) ca
          go_simp
          all_goals with_reducible rfl
        refine wpAnyH_take (i := 10) (v := ?_) rfl (by kernel_rfl) (by kernel_rfl) (by kernel_rfl) (fun _ _ _ h => h) (Or.inl ⟨by kernel_rfl, ?_⟩) hS ?_
        rotate_left 1
        · intro w hT
          go_simp
          all_goals with_reducible rfl
        refine wpAnyH_take (i := 11) (v := ?_) rfl (by kernel_rfl) (by kernel_rfl) (by kernel_rfl) (fun _ _ _ h => h) (Or.inl ⟨by kernel_rfl, ?_⟩) hS ?_
        rotate_left 1
        · intro w hT
          go_simp
          all_goals with_reducible rfl
        refine wpAnyH_take (i := 12) (v := ?_) rfl (by kernel_rfl) (by kernel_rfl) (by kernel_rfl) (fun _ _ _ h => h) (Or.inl ⟨by kernel_rfl, ?_⟩) hS ?_
        rotate_left 1
        · intro w hT
          obtain ⟨x0, x1, x2, x3, x4, x5, x6, x7, x8, x9, x10, xlt⟩ := cp_all hT.nn
          go_simp
          all_goals with_reducible rfl
        refine wpAnyH_take (i := 13) (v := ?_) rfl (by kernel_rfl) (by kernel_rfl) (by kernel_rfl) (fun _ _ _ h => h) (Or.inl ⟨by kernel_rfl, ?_⟩) hS ?_
        rotate_left 1
        · intro w hT
          obtain ⟨x0, x1, x2, x3, x4, x5, x6, x7, x8, x9, x10, xlt⟩ := cp_all hT.cc
          go_simp
          all_goals with_reducible rfl
        refine wpAnyH_ready (rs := [14]) (by kernel_rfl) (by simp) ?_
        refine AllReadyH.cons rfl (fun K hK => ?_) AllReadyH.nil
        go_simp
        refine (HSAME.out _).mono ?_
        rintro e Wb ⟨rfl, hbb⟩
        refine hK.out _ _ (hS.below hbb) (fun hS => ?_)
        clear hK K
        refine wpAnyH_take (i := 15) (v := ?_) rfl (by kernel_rfl) (by kernel_rfl) (by kernel_rfl) (fun _ _ _ h => h) (Or.inl ⟨by kernel_rfl, ?_⟩) hS ?_
        rotate_left 1
        · intro w hT
          go_simp
          all_goals with_reducible rfl
        refine wpAnyH_take (i := 16) (v := ?_) rfl (by kernel_rfl) (by kernel_rfl) (by kernel_rfl) (fun _ _ _ h => h) (Or.inl ⟨by kernel_rfl, ?_⟩) hS ?_
        rotate_left 1
        · intro w hT
          go_simp
          all_goals with_reducible rfl
        refine wpAnyH_take (i := 17) (v := ?_) rfl (by kernel_rfl) (by kernel_rfl) (by kernel_rfl) (fun _ _ _ h => h) (Or.inl ⟨by kernel_rfl, ?_⟩) hS ?_
        rotate_left 1
        · intro w hT
          go_simp
          all_goals with_reducible rfl
        refine wpAnyH_done (by kernel_rfl) ?_ _
        have TZ := Lib.hid hS
        clear hS
        go_simp
        have hmb : m1.length ≤ mb.length := by omega
        have hmc : m1.length ≤ cb := by omega
        go_upto_region 16 with (fail)
        generalize Wb = wz at *
        have hgg := TZ.out.mm.p.lt
        have hggc := TZ.out.cc.lt
        have hggn := TZ.out.nn.lt
        have hgb := TZ.out.b.size
        have hmi : (m1.length : Int) ≤ (mb.length : Int) := by omega
        have hmci : (m1.length : Int) ≤ (cb : Int) := by omega
        have hla4 : (mb.take m1.length).length ≤ 1000000 := by rw [List.length_take]; omega
        have HZ2 := Lib.hid (Blk.new wz 5 #[])
        have HTK := Lib.hid (show (mb.take m1.length).length = m1.length from by rw [List.length_take]; omega)
        have HBT := Lib.hid (bytes_take (HBB.out.belowB (bl_new TZ.out.b (.cells #[] 5))) m1.length)
        go_wp2_with (at_builtin; refine wpList_copy_n rfl _ _ rfl rfl HZ2.out _ _ _ (mb.take m1.length) HTK.out rfl HBT.out hla4 ?_; intro Bo cap2 W8 hrow8 hcap8 hBo8 hBol8 hbw8)
        have TZ8 := Lib.hid (TZ.out.below ((bl_new (Below.refl wz.heap.size wz) (.cells #[] 5)).trans hbw8))
        have HOW8 := Lib.hid (show RowB W8 (some ⟨Bo, 0, none⟩) Bo (mixL m1 mb (ShareP n1.pc at' lg) 0) from by rw [mix_zero _ _ _ hmb]; exact hrow8)
        have HCAP8 := Lib.hid hcap8
        have HNE := Lib.hid (show W2.heap.size ≠ Bo ∧ gn ≠ Bo ∧ g ≠ Bo ∧ Bk ≠ Bo ∧ w.heap.size ≤ Bo ∧ 0 < w.heap.size from by
          have h3 := HG.out.laid.klt
          have h4 := HBl.out
          refine ⟨by omega, by omega, by omega, by omega, by omega, h3⟩)
        have hp0 := HOK.out.p0
        have hp1 := HOK.out.p1
        have HBOL := Lib.hid hBol8
        clear hrow8 hcap8 hBo8 hBol8 hbw8 TZ HZ2 HTK HBT hgg hggc hggn hgb
        go_loopw [18] (fun i wr => ∃ k : Nat, i = .int .i64 (k : Int) ∧ k ≤ m1.length ∧ TI w W2.heap.size gn g Bk cap n1 n1 m1 wr ∧ RowB wr (some ⟨Bo, 0, none⟩) Bo (mixL m1 mb (ShareP n1.pc at' lg) k) ∧ Bo < wr.heap.size) (fun i _ => m1.length - (intOf i).toNat)
        case atStart => exact ⟨0, rfl, Nat.zero_le _, TZ8.out, HOW8.out, HBOL.out⟩
        case round =>
          obtain ⟨k, rfl, hk, hti, hrow, hbl⟩ := hrel
          have TT2 := Lib.hid hti
          have RR := Lib.hid hrow
          have BL := Lib.hid hbl
          clear hti hrow hbl TZ8 HOW8 HBOL
          obtain ⟨x0, x1, x2, x3, x4, x5, x6, x7, x8, x9, x10, xlt⟩ := cp_all TT2.out.cc
          by_cases hkl : k < m1.length
          · have hki : (k : Int) < (m1.length : Int) := by omega
            obtain ⟨x, hx⟩ : ∃ x, m1[k]? = some x := ⟨_, List.getElem?_eq_getElem hkl⟩
            have hxg : m1.getD k 0 = x := by rw [List.getD_eq_getElem?_getD, hx]; rfl
            obtain ⟨ba, oa, hAa, hal, hac⟩ := B.byte_at (HBA.out.belowB TT2.out.b) hx
            obtain ⟨hob, hoc, hof⟩ := RR.out.get (mix_get m1 mb (ShareP n1.pc at' lg) k k hkl)
            have HYES := Lib.hid (fun hp : ShareP n1.pc at' lg k => show TI w W2.heap.size gn g Bk cap n1 n1 m1 (wr.setCell ⟨Bo, k, none⟩ (.int .u8 x)) ∧ RowB (wr.setCell ⟨Bo, k, none⟩ (.int .u8 x)) (some ⟨Bo, 0, none⟩) Bo (mixL m1 mb (ShareP n1.pc at' lg) (k + 1)) ∧ Bo < (wr.setCell ⟨Bo, k, none⟩ (.int .u8 x)).heap.size from
              ⟨TT2.out.but (But.setCell (S := fun k => k = Bo) (But.refl _ wr) (p := ⟨Bo, k, none⟩) (.inl rfl) _) HNE.out.1 HNE.out.2.1 HNE.out.2.2.1 HNE.out.2.2.2.1 HNE.out.2.2.2.2.1, by
                have h := RR.out.set (a := k) (by rw [mix_len]; exact hkl) x
                rw [← hxg, mix_yes _ _ _ hkl hp] at h
                rw [hxg] at h
                exact h, by simpa using BL.out⟩)
            have HNO := Lib.hid (fun hp : ¬ ShareP n1.pc at' lg k => show RowB wr (some ⟨Bo, 0, none⟩) Bo (mixL m1 mb (ShareP n1.pc at' lg) (k + 1)) from by rw [mix_no _ _ _ hp]; exact RR.out)
            subst hAa
            clear hx hxg
            generalize (if k < k ∧ ShareP n1.pc at' lg k then m1.getD k 0 else mb.getD k 0) = oldv at *
            have hcs : (n1.pc ≤ (k : Int) ∧ (k : Int) < n1.pc + 4) ∨ ((n1.pc ≤ (k : Int) ∧ ¬ (k : Int) < n1.pc + 4) ∨ ¬ n1.pc ≤ (k : Int)) := by omega
            have hls : (0 < lg ∧ (at' : Int) ≤ (k : Int) ∧ (k : Int) < (at' : Int) + lg) ∨ (0 < lg ∧ (at' : Int) ≤ (k : Int) ∧ ¬ (k : Int) < (at' : Int) + lg) ∨ (0 < lg ∧ ¬ (at' : Int) ≤ (k : Int)) ∨ ¬ 0 < lg := by omega
            have HCS := Lib.hid hcs
            have HLS := Lib.hid hls
            clear hcs hls
            rcases HCS.out with ⟨p1, p2⟩ | h
            · go_wp2
              exact ⟨⟨k + 1, by simp, by omega, (HYES.out (by unfold ShareP; omega)).1, (HYES.out (by unfold ShareP; omega)).2.1, (HYES.out (by unfold ShareP; omega)).2.2⟩, by simp [intOf]; omega⟩
            · rcases h with ⟨p1, p2⟩ | p1
              all_goals
                rcases HLS.out with ⟨q0, q1, q2⟩ | ⟨q0, q1, q2⟩ | ⟨q0, q1⟩ | q0
                · go_wp2
                  exact ⟨⟨k + 1, by simp, by omega, (HYES.out (by unfold ShareP; omega)).1, (HYES.out (by unfold ShareP; omega)).2.1, (HYES.out (by unfold ShareP; omega)).2.2⟩, by simp [intOf]; omega⟩
                all_goals
                  go_wp2
                  exact ⟨⟨k + 1, by simp, by omega, TT2.out, HNO.out (by unfold ShareP; omega), BL.out⟩, by simp [intOf]; omega⟩
          · have hkk : k = m1.length := by omega
            subst hkk
            clear hk hkl
            have hml := mix_len m1 mb (ShareP n1.pc at' lg) m1.length
            have hnew := Blk.new wr 35 #[.slice (some ⟨Bo, 0, none⟩) m1.length cap2]
            have hbn := bl_new (Below.refl wr.heap.size wr) (.cells #[.slice (some ⟨Bo, 0, none⟩) m1.length cap2] 35)
            have HM9 := Lib.hid (show RamAt (wr.alloc (.cells #[.slice (some ⟨Bo, 0, none⟩) m1.length cap2] 35)) wr.heap.size (some ⟨Bo, 0, none⟩) Bo cap2 (mixL m1 mb (ShareP n1.pc at' lg) m1.length) from
              ⟨by rw [hml]; exact hnew, RR.out.below hbn, by rw [hml]; exact HCAP8.out, by have := BL.out; omega, mix_low _ _ _ _ HLA.out HLB.out, by rw [hml]; omega⟩)
            have TT9 := Lib.hid (TT2.out.below hbn)
            have HZ9 := Lib.hid (show Bo < (wr.alloc (.cells #[.slice (some ⟨Bo, 0, none⟩) m1.length cap2] 35)).heap.size from by have := BL.out; simp; omega)
            clear hnew hbn hml
            go_wp2_with (fail)
            generalize wr.alloc (.cells #[.slice (some ⟨Bo, 0, none⟩) m1.length cap2] 35) = W9 at *
            have hst := step_any (w := W9) (HG.out.laid.below TT9.out.b) HM9.out HOK.out HZ9.out
            obtain ⟨hq1, hq2⟩ := HHG.out (mixL m1 mb (ShareP n1.pc at' lg) m1.length) (mix_len _ _ _ _) (fun i h1 h2 h3 => mix_all _ _ _ h3 (.inl ⟨by omega, by omega⟩)) (fun h0 i h1 h2 h3 => mix_all _ _ _ h3 (.inr ⟨h0, by omega, h2⟩))
            obtain ⟨⟨p2, t2, m2⟩, hs2⟩ : ∃ x, x = stepP n1 (mixL m1 mb (ShareP n1.pc at' lg) m1.length) := ⟨_, rfl⟩
            rw [← hs2] at hst hq1 hq2
            clear hs2
            dsimp only at hq1 hq2
            rw [hq1, hq2] at hst
            clear hq1 hq2
            have HST := Lib.hid (show Calls Tryz.prog 7 #[.agg #[.int .u32 (n1.r 0), .int .u32 (n1.r 1), .int .u32 (n1.r 2), .int .u32 (n1.r 3), .int .u32 (n1.r 4), .int .u32 (n1.r 5), .int .u32 (n1.r 6), .int .u32 (n1.r 7), .complex .f64 (n1.z 0).1 (n1.z 0).2, .complex .f64 (n1.z 1).1 (n1.z 1).2, .int .u32 n1.pc], .iface 33 (.pointer (some ⟨wr.heap.size, 0, none⟩))] W9 fun e w' => e = .returned (.tuple #[.agg #[.int .u32 (n1.r 0), .int .u32 (n1.r 1), .int .u32 (n1.r 2), .int .u32 (n1.r 3), .int .u32 (n1.r 4), .int .u32 (n1.r 5), .int .u32 (n1.r 6), .int .u32 (n1.r 7), .complex .f64 (n1.z 0).1 (n1.z 0).2, .complex .f64 (n1.z 1).1 (n1.z 1).2, .int .u32 n1.pc], .int .i64 t1]) ∧ RamAt w' wr.heap.size (some ⟨Bo, 0, none⟩) Bo cap2 m2 ∧ But (fun k => k = Bo) W9 w' from hst)
            clear hst
            refine HST.out.mono ?_
            rintro e W10 ⟨rfl, hm10, hb10⟩
            have TTa := Lib.hid (TT9.out.but hb10 HNE.out.1 HNE.out.2.1 HNE.out.2.2.1 HNE.out.2.2.2.1 HNE.out.2.2.2.2.1)
            have hbn := bl_new (Below.refl W10.heap.size W10) (.cells #[.int .u32 (n1.r 0), .int .u32 (n1.r 1), .int .u32 (n1.r 2), .int .u32 (n1.r 3), .int .u32 (n1.r 4), .int .u32 (n1.r 5), .int .u32 (n1.r 6), .int .u32 (n1.r 7), .complex .f64 (n1.z 0).1 (n1.z 0).2, .complex .f64 (n1.z 1).1 (n1.z 1).2, .int .u32 n1.pc] 31)
            have HPN := Lib.hid (show Blk (W10.alloc (.cells #[.int .u32 (n1.r 0), .int .u32 (n1.r 1), .int .u32 (n1.r 2), .int .u32 (n1.r 3), .int .u32 (n1.r 4), .int .u32 (n1.r 5), .int .u32 (n1.r 6), .int .u32 (n1.r 7), .complex .f64 (n1.z 0).1 (n1.z 0).2, .complex .f64 (n1.z 1).1 (n1.z 1).2, .int .u32 n1.pc] 31)) W10.heap.size 31 n1.arr from Blk.new W10 31 n1.arr)
            have TTb := Lib.hid (TTa.out.below hbn)
            clear hm10 hb10 hbn x0 x1 x2 x3 x4 x5 x6 x7 x8 x9 x10 xlt HST TT9 HM9 HZ9
            have HSM := Lib.hid (fun W => same_lit n1 W)
            go_upto_region 24 with (fail)
            generalize W10.alloc (.cells #[.int .u32 (n1.r 0), .int .u32 (n1.r 1), .int .u32 (n1.r 2), .int .u32 (n1.r 3), .int .u32 (n1.r 4), .int .u32 (n1.r 5), .int .u32 (n1.r 6), .int .u32 (n1.r 7), .complex .f64 (n1.z 0).1 (n1.z 0).2, .complex .f64 (n1.z 1).1 (n1.z 1).2, .int .u32 n1.pc] 31) = W11 at *
            have hpl := HPN.out.lt
            obtain ⟨x0, x1, x2, x3, x4, x5, x6, x7, x8, x9, x10, xlt⟩ := cp_all HPN.out
            obtain ⟨y0, y1, y2, y3, y4, y5, y6, y7, y8, y9, y10, ylt⟩ := cp_all TTb.out.nn
            go_wp2_with (fail)
            refine (HSM.out _).mono ?_
            rintro e W12 ⟨rfl, hb12⟩
            have HBf := Lib.hid (bl_step TTb.out.b hb12)
            clear hb12
            go_wp2
            go_ret
            exact ⟨rfl, HBf.out⟩
end Go.Proofs.YtoglmemmdolbmaaGreatDoor
