/-
  The law BootNames, walked: the chapter's examples, and what may not be. Condition: the tables lie as the program's text, and the library's, lay them.
-/
import Derived.Test.YtpikgebfeleajaaGreatDoorBoL
import Derived.BigQuiet
import Derived.Deep.RegionHeld3
import Derived.Test.YtpikgebfeleajaaGreatDoorBoV
import Derived.Test.YtpikgebfeleajaaGreatDoorBoot7
namespace Go.Proofs.YtpikgebfeleajaaGreatDoor
section
section
open Go.RowKit Go.Shelf
set_option linter.unusedVariables false
set_option linter.unusedSimpArgs false
attribute [local go_sem] Oper.semAt_some

theorem not_num {k : Nat} {s : List UInt8} (h : ∀ v : Fin 257, 1 ≤ v.1 → (v.1 : Int) ≤ mB' k → wB k ++ 32 :: itoaF (v.1 : Int) ≠ s) : ¬ NumOk k s := fun hn => by
  have hb := num_back hn
  have h1 := hn.2.2.2.1
  have h2 := hn.2.2.2.2
  have hm := mB_le k
  obtain ⟨v, hv⟩ := Int.eq_ofNat_of_zero_le (show 0 ≤ numV k s by omega)
  rw [hv] at h1 h2 hb
  refine h ⟨v, by omega⟩ (by show 1 ≤ v; omega) h2 ?_
  show wB k ++ 32 :: itoaF (v : Int) = s
  rw [itoaF_eq (by omega) (by omega)]
  exact hb.symm
theorem not_ok {s : List UInt8} (h : (s.all fun c => c != 10) = true) : ¬ okL s = true := fun hk => by
  have hb := cut_back hk
  rw [List.all_eq_true] at h
  have := h 10 (by rw [hb]; simp)
  simp at this
/-- What goes wrong in a line. -/
def Wr (s : List UInt8) (line : Int) : Prop := parseB s = ((0, 0, 0, 0, []), line, 190)
theorem wr_at {s : List UInt8} {k : Nat} (hk : k < 4) (h : ∀ j, j < k → StepOk j (behL j s)) (hn : ¬ StepOk k (behL k s)) : Wr s ((k : Int) + 1) := parse_bad (bad_at hk h hn)
theorem line_of {k : Nat} {n : Int} {l : List UInt8} (h0 : -9223372036854775808 ≤ n) (h1 : n ≤ 9223372036854775807) (h : wB k ++ 32 :: itoaF n = l) : lineB k n = l := by
  unfold lineB
  rw [← itoaF_eq h0 h1]
  exact h
theorem wr_two {b r : List UInt8} (hb : (b.all fun c => c != 10) = true) (hn : ¬ NumOk 2 b) : Wr (lineB 0 2 ++ 10 :: (lineB 1 16 ++ 10 :: (b ++ 10 :: r))) 3 := by
  obtain ⟨s0, a0, b0⟩ := step_line (k := 0) (by decide) (n := 2) (by decide) (by decide) (lineB 1 16 ++ 10 :: (b ++ 10 :: r))
  obtain ⟨s1, a1, b1⟩ := step_line (k := 1) (by decide) (n := 16) (by decide) (by decide) (b ++ 10 :: r)
  have d1 : behL 1 (lineB 0 2 ++ 10 :: (lineB 1 16 ++ 10 :: (b ++ 10 :: r))) = lineB 1 16 ++ 10 :: (b ++ 10 :: r) := b0
  have d2 : behL 2 (lineB 0 2 ++ 10 :: (lineB 1 16 ++ 10 :: (b ++ 10 :: r))) = b ++ 10 :: r := by show tlL (behL 1 _) = _; rw [d1, b1]
  refine wr_at (k := 2) (by decide) (fun j hj => ?_) (fun h => ?_)
  · match j with
    | 0 => exact s0
    | 1 => rw [d1]; exact s1
    | j + 2 => omega
  · rw [d2] at h
    have hh := (cut_line r (a := b) (fun c hc => by
      rw [List.all_eq_true] at hb
      simpa using hb c hc)).1
    have := h.2
    rw [hh] at this
    exact hn this
def txA : List UInt8 := [99, 111, 114, 101, 115, 32, 50, 10, 102, 114, 97, 109, 101, 115, 32, 49, 54, 10, 112, 114, 111, 99, 115, 32, 51, 51, 10, 112, 105, 112, 101, 32, 56, 10, 115, 121, 115, 10]
def txB : List UInt8 := [99, 111, 114, 101, 115, 32, 50, 10, 102, 114, 97, 109, 101, 115, 32, 49, 54, 10, 112, 114, 111, 99, 115, 32, 48, 52, 10, 112, 105, 112, 101, 32, 56, 10, 115, 121, 115, 10]
def txC : List UInt8 := [99, 111, 114, 101, 115, 32, 50, 10, 102, 114, 97, 109, 101, 115, 32, 49, 54, 10, 112, 114, 111, 99, 115, 32, 52, 10, 112, 105, 112, 101, 32, 56, 10]
def txD : List UInt8 := [99, 111, 114, 101, 115, 32, 50, 10, 102, 114, 97, 109, 101, 115, 32, 49, 54, 10, 112, 114, 111, 99, 115, 32, 52, 10, 112, 105, 112, 101, 32, 56, 10, 115, 117, 115, 10]
def txE : List UInt8 := [99, 111, 114, 101, 115, 32, 50]
def txF : List UInt8 := [99, 111, 114, 101, 115, 32, 50, 10]
def txG : List UInt8 := [99, 111, 114, 101, 115, 32, 48, 10]
theorem l02 : lineB 0 2 = [99, 111, 114, 101, 115, 32, 50] := line_of (by decide) (by decide) (by decide +kernel)
theorem l16 : lineB 1 16 = [102, 114, 97, 109, 101, 115, 32, 49, 54] := line_of (by decide) (by decide) (by decide +kernel)
theorem wrA : Wr txA 3 := by
  have h := wr_two (b := [112, 114, 111, 99, 115, 32, 51, 51]) (r := [112, 105, 112, 101, 32, 56, 10, 115, 121, 115, 10]) (by decide +kernel) (not_num (by decide +kernel))
  rw [l02, l16] at h
  exact h
theorem wrB : Wr txB 3 := by
  have h := wr_two (b := [112, 114, 111, 99, 115, 32, 48, 52]) (r := [112, 105, 112, 101, 32, 56, 10, 115, 121, 115, 10]) (by decide +kernel) (not_num (by decide +kernel))
  rw [l02, l16] at h
  exact h
theorem headF_lit : headF 2 16 4 8 = txC := by decide +kernel
theorem asm_none : I.asmP [] = ([], 0, 0) := by decide +kernel
theorem asm_sus : (I.asmP [115, 117, 115, 10]).2.1 = 1 ∧ ¬ (I.asmP [115, 117, 115, 10]).2.2 = 0 := by decide +kernel
theorem wrC : Wr txC 0 := by
  have h := parse_head inB_some []
  rw [asm_none, List.append_nil, ← headF_eq inB_some, headF_lit] at h
  unfold Wr
  simpa using h
theorem wrD : Wr txD 5 := by
  have h := parse_head inB_some [115, 117, 115, 10]
  rw [if_neg asm_sus.2, asm_sus.1, ← headF_eq inB_some, headF_lit] at h
  exact h
theorem wrN : Wr [] 1 := wr_at (k := 0) (by decide) (fun j hj => absurd hj (Nat.not_lt_zero j)) fun h => not_ok (s := []) (by decide) h.1
theorem wrE : Wr txE 1 := wr_at (k := 0) (by decide) (fun j hj => absurd hj (Nat.not_lt_zero j)) fun h => not_ok (s := txE) (by decide) h.1
theorem wrF : Wr txF 2 := by
  obtain ⟨s0, a0, b0⟩ := step_line (k := 0) (by decide) (n := 2) (by decide) (by decide) []
  rw [l02] at s0 b0
  refine wr_at (k := 1) (by decide) (fun j hj => ?_) fun h => ?_
  · match j with
    | 0 => exact s0
    | j + 1 => omega
  · have d1 : behL 1 txF = [] := b0
    rw [d1] at h
    exact not_ok (s := []) (by decide) h.1
theorem wrG : Wr txG 1 := wr_at (k := 0) (by decide) (fun j hj => absurd hj (Nat.not_lt_zero j)) fun h => by
  have hh := (cut_line [] (a := [99, 111, 114, 101, 115, 32, 48]) (by decide)).1
  have := h.2
  rw [show behL 0 txG = [99, 111, 114, 101, 115, 32, 48] ++ 10 :: [] from rfl, hh] at this
  exact not_num (k := 0) (s := [99, 111, 114, 101, 115, 32, 48]) (by decide +kernel) this
/-! ## what Replace makes -/
theorem repA : Lib.replace wholeL [112, 114, 111, 99, 115, 32, 52] [112, 114, 111, 99, 115, 32, 51, 51] 1 = txA := by decide +kernel
theorem repB : Lib.replace wholeL [112, 114, 111, 99, 115, 32, 52] [112, 114, 111, 99, 115, 32, 48, 52] 1 = txB := by decide +kernel
theorem repC : Lib.replace wholeL [115, 121, 115, 10] [] 1 = txC := by decide +kernel
theorem repD : Lib.replace wholeL [115, 121, 115] [115, 117, 115] 1 = txD := by decide +kernel
theorem rep_any {w : World} (hM : MaxL w) (o n t : List UInt8) (h1 : 1 ≤ o.length) (h2 : o.length ≤ 10) (h3 : Lib.countB ⟨wholeL.toArray⟩ ⟨o.toArray⟩ * n.length ≤ 1000) (h : Lib.replace wholeL o n 1 = t) :
    Calls Tryz.prog 18 #[.string ⟨wholeL.toArray⟩, .string ⟨o.toArray⟩, .string ⟨n.toArray⟩, .int .i64 1] w fun e w' => e = .returned (.string ⟨t.toArray⟩) ∧ Below w.heap.size w w' := by
  obtain ⟨m, hm⟩ := hM.cell
  have hz : (⟨wholeL.toArray⟩ : ByteArray).size = 37 := by decide +kernel
  have ho : (⟨o.toArray⟩ : ByteArray).size = o.length := List.size_toArray
  have hn : (⟨n.toArray⟩ : ByteArray).size = n.length := List.size_toArray
  have := Tryz.strings_Replace ⟨wholeL.toArray⟩ ⟨o.toArray⟩ ⟨n.toArray⟩ 1 m w (by omega) hm (by omega) (by rw [hz, hn]; omega)
  simp only at this
  rw [h] at this
  exact this

theorem wrong_any {w : World} (hG : GB w) (s : List UInt8) (hs : s.length ≤ 1000000) {line : Int} (h : Wr s line) :
    Calls Tryz.prog 17 #[.string ⟨s.toArray⟩, .int .i64 line] w fun e w' => e = .returned (.bool true) ∧ Below w.heap.size w w' := by
  have HP := Lib.hid (parseOk_any hG ⟨s.toArray⟩ (by show s.toArray.size ≤ _; rw [List.size_toArray]; exact hs) h)
  generalize (⟨s.toArray⟩ : ByteArray) = sb at *
  clear hG h hs
  go_enter Tryz.func17, Tryz.ntmps17
  go_wp2_with fail
  refine HP.out.mono ?_
  rintro e W1 ⟨A, ca, rfl, hA, hb⟩
  have hx := Blk.new W1 24 #[.int .i64 0, .int .i64 0, .int .i64 0, .int .i64 0, .slice A ([] : List Int).length ca]
  have HB := Lib.hid (bl_new hb (.cells #[.int .i64 0, .int .i64 0, .int .i64 0, .int .i64 0, .slice A ([] : List Int).length ca] 24))
  obtain ⟨x0, x1, x2, x3, x4, xlt⟩ := rcells' hx
  clear hb hA hx
  go_wp2
  go_ret
  exact ⟨by first | rfl | (simp; done), HB.out⟩
end
section
open Go.RowKit Go.Shelf
set_option linter.unusedVariables false
set_option linter.unusedSimpArgs false
attribute [local go_sem] Oper.semAt_some

theorem eq4_no (a b c d a' b' c' d' : Int) (h : ¬ (a = a' ∧ b = b' ∧ c = c' ∧ d = d')) (w : World) : (Op.equalIn 10000 49 (.agg #[.int .i64 a, .int .i64 b, .int .i64 c, .int .i64 d]) (.agg #[.int .i64 a', .int .i64 b', .int .i64 c', .int .i64 d'])).run Tryz.prog w = .ok (.false) w := by
  have a2 := Tryz.sizeOf3
  have a4 := Tryz.isAgg3
  rw [show (10000 : Nat) = 9999 + 1 from rfl, Op.equalIn]
  simp only [Sem.run_bind, run_underlying Tryz.underlying49, Result.andThen_ok]
  simp only [Std.Legacy.Range.forIn_eq_forIn_range', Std.Legacy.Range.size, Nat.sub_zero, Nat.add_sub_cancel, Nat.div_one, List.range'_succ, List.range'_zero, List.forIn_cons, List.forIn_nil]
  simp only [Sem.run_bind, a2, Result.andThen_ok, Nat.reduceMul, Nat.reduceAdd, Nat.zero_mul]
  by_cases h1 : a = a'
  · by_cases h2 : b = b'
    · by_cases h3 : c = c'
      · have h4 : ¬ d = d' := fun e => h ⟨h1, h2, h3, e⟩
        subst h1 h2 h3
        go_simp
        try simp [h4]
      · subst h1 h2
        go_simp
        try simp [h3]
    · subst h1
      go_simp
      try simp [h2]
  · go_simp
    try simp [h1]

set_option maxRecDepth 100000 in
set_option maxHeartbeats 4000000 in
theorem sameNo_any {w : World} (c f p q c' f' p' q' : Int) (A B : Option Addr) (n m ca cb : Nat) (hn : ¬ (c = c' ∧ f = f' ∧ p = p' ∧ q = q')) :
    Calls Tryz.prog 12 #[.agg #[.int .i64 c, .int .i64 f, .int .i64 p, .int .i64 q, .slice A n ca], .agg #[.int .i64 c', .int .i64 f', .int .i64 p', .int .i64 q', .slice B m cb]] w fun e w' => e = .returned (.bool false) ∧ Below w.heap.size w w' := by
  obtain ⟨W0, hW0⟩ : ∃ W0, (w.alloc (.cells #[.int .i64 c, .int .i64 f, .int .i64 p, .int .i64 q, .slice A n ca] 24)).alloc (.cells #[.int .i64 c', .int .i64 f', .int .i64 p', .int .i64 q', .slice B m cb] 24) = W0 := ⟨_, rfl⟩
  have hb0 : Below w.heap.size w W0 := by rw [← hW0]; exact ((Below.refl w.heap.size w).alloc (Nat.le_refl _) _).alloc (by simp) _
  have hx := (Blk.new w 24 #[.int .i64 c, .int .i64 f, .int .i64 p, .int .i64 q, .slice A n ca]).alloc (.cells #[.int .i64 c', .int .i64 f', .int .i64 p', .int .i64 q', .slice B m cb] 24)
  have hy := Blk.new (w.alloc (.cells #[.int .i64 c, .int .i64 f, .int .i64 p, .int .i64 q, .slice A n ca] 24)) 24 #[.int .i64 c', .int .i64 f', .int .i64 p', .int .i64 q', .slice B m cb]
  rw [World.size_alloc] at hy
  rw [hW0] at hx hy
  have HC := Lib.hid (fun W (hW : Below W0.heap.size W0 W) => rcells' (hx.below hW hx.lt))
  have HD := Lib.hid (fun W (hW : Below W0.heap.size W0 W) => rcells' (hy.below hW hy.lt))
  have HSZ := Lib.hid (fun W c f p q (A : Option Addr) (n ca : Nat) (hW : Below W0.heap.size W0 W) => show Calls Tryz.prog 20 #[.agg #[.int .i64 c, .int .i64 f, .int .i64 p, .int .i64 q, .slice A n ca]] W fun e w' => e = .returned (.agg #[.int .i64 c, .int .i64 f, .int .i64 p, .int .i64 q]) ∧ Below W0.heap.size W0 w' from
    (sizes_any (w := W) c f p q A n ca).mono fun e w' ⟨he, hb⟩ => ⟨he, bl_step hW hb⟩)
  have HE := fun w => eq4_no c f p q c' f' p' q' hn w
  have HB0 := Lib.hid hb0
  have hBc := Below.refl W0.heap.size W0
  obtain ⟨x0, x1, x2, x3, x4, xlt⟩ := rcells' hx
  obtain ⟨y0, y1, y2, y3, y4, ylt⟩ := rcells' hy
  clear hx hy hb0 hn
  go_enter Tryz.func12, Tryz.ntmps12
  go_wp2_with fail
  first
  | (go_region_with (go_at_call 20; refine (HSZ.out _ _ _ _ _ _ _ _ ?_).mono ?_; (focus (repeat (first | assumption | refine Below.drew ?_))); rintro e V1 ⟨rfl, hV1⟩; obtain ⟨x0, x1, x2, x3, x4, xlt⟩ := HC.out _ hV1; obtain ⟨y0, y1, y2, y3, y4, ylt⟩ := HD.out _ hV1))
  | (fail)
  all_goals
    rename World => wn
    have hbn : Below W0.heap.size W0 wn := by assumption
    have HBN := Lib.hid (HB0.out.trans (hbn.mono HB0.out.size))
    go_wp2
    go_ret
    exact ⟨by first | rfl | (simp; done), HBN.out⟩
end
end
section
open Go.RowKit Go.Shelf
set_option linter.unusedVariables false
set_option linter.unusedSimpArgs false
attribute [local go_sem] Oper.semAt_some

def pageZ : List Int := 0 :: 0 :: 0 :: 24 :: List.replicate 60 0
theorem page_lit : pageOf (mayB 2 16 4 8 1) [402653184] 0 = pageZ := by decide +kernel
theorem page_one : pageOf (mayB 2 16 4 8 1) [402653184] 1 = [] := by decide +kernel
theorem page_neg : pageOf (mayB 2 16 4 8 1) [402653184] (-1) = [] := by decide +kernel
theorem words_lit : Words [402653184] := fun i x hx => by
  match i with
  | 0 =>
    injection hx with hx
    rw [← hx]
    decide
  | i + 1 => simp at hx
theorem may_lit : mayB 2 16 4 8 1 = true := by decide +kernel
theorem may_x : mayB 2 16 4 8 0 = false := by decide +kernel
theorem may_y : mayB 9 16 4 8 1 = false := by decide +kernel

/-- The words lie there, and go on lying. -/
structure KeptN (V : World) (A : Option Addr) : Prop where
  at_ : ∀ W', Below V.heap.size V W' → I.WordsAt W' A [402653184]

set_option maxRecDepth 100000 in
set_option maxHeartbeats 16000000 in
theorem bootNames_any {w : World} (hG : GB w) : Calls Tryz.prog 5 #[] w fun e w' => e = .returned (.bool true) ∧ Below w.heap.size w w' := by
  obtain ⟨tA, htA⟩ : ∃ t : ByteArray, (⟨txA.toArray⟩ : ByteArray) = t := ⟨_, rfl⟩
  have HRA := Lib.hid (fun W (hW : Below w.heap.size w W) => show Calls Tryz.prog 18 #[.string ⟨#[99, 111, 114, 101, 115, 32, 50, 10, 102, 114, 97, 109, 101, 115, 32, 49, 54, 10, 112, 114, 111, 99, 115, 32, 52, 10, 112, 105, 112, 101, 32, 56, 10, 115, 121, 115, 10]⟩, .string ⟨#[112, 114, 111, 99, 115, 32, 52]⟩, .string ⟨#[112, 114, 111, 99, 115, 32, 51, 51]⟩, .int .i64 1] W fun e w' => e = .returned (.string tA) ∧ Below w.heap.size w w' from by
    rw [← htA]
    exact (rep_any (hG.below hW).isa.max [112, 114, 111, 99, 115, 32, 52] [112, 114, 111, 99, 115, 32, 51, 51] txA (by decide) (by decide) (by decide +kernel) repA).mono fun e w' ⟨he, hb⟩ => ⟨he, bl_step hW hb⟩)
  have HWA := Lib.hid (fun W (hW : Below w.heap.size w W) => show Calls Tryz.prog 17 #[.string tA, .int .i64 3] W fun e w' => e = .returned (.bool true) ∧ Below w.heap.size w w' from by
    rw [← htA]
    exact (wrong_any (hG.below hW) txA (by decide) wrA).mono fun e w' ⟨he, hb⟩ => ⟨he, bl_step hW hb⟩)
  clear htA
  obtain ⟨tB, htB⟩ : ∃ t : ByteArray, (⟨txB.toArray⟩ : ByteArray) = t := ⟨_, rfl⟩
  have HRB := Lib.hid (fun W (hW : Below w.heap.size w W) => show Calls Tryz.prog 18 #[.string ⟨#[99, 111, 114, 101, 115, 32, 50, 10, 102, 114, 97, 109, 101, 115, 32, 49, 54, 10, 112, 114, 111, 99, 115, 32, 52, 10, 112, 105, 112, 101, 32, 56, 10, 115, 121, 115, 10]⟩, .string ⟨#[112, 114, 111, 99, 115, 32, 52]⟩, .string ⟨#[112, 114, 111, 99, 115, 32, 48, 52]⟩, .int .i64 1] W fun e w' => e = .returned (.string tB) ∧ Below w.heap.size w w' from by
    rw [← htB]
    exact (rep_any (hG.below hW).isa.max [112, 114, 111, 99, 115, 32, 52] [112, 114, 111, 99, 115, 32, 48, 52] txB (by decide) (by decide) (by decide +kernel) repB).mono fun e w' ⟨he, hb⟩ => ⟨he, bl_step hW hb⟩)
  have HWB := Lib.hid (fun W (hW : Below w.heap.size w W) => show Calls Tryz.prog 17 #[.string tB, .int .i64 3] W fun e w' => e = .returned (.bool true) ∧ Below w.heap.size w w' from by
    rw [← htB]
    exact (wrong_any (hG.below hW) txB (by decide) wrB).mono fun e w' ⟨he, hb⟩ => ⟨he, bl_step hW hb⟩)
  clear htB
  obtain ⟨tC, htC⟩ : ∃ t : ByteArray, (⟨txC.toArray⟩ : ByteArray) = t := ⟨_, rfl⟩
  have HRC := Lib.hid (fun W (hW : Below w.heap.size w W) => show Calls Tryz.prog 18 #[.string ⟨#[99, 111, 114, 101, 115, 32, 50, 10, 102, 114, 97, 109, 101, 115, 32, 49, 54, 10, 112, 114, 111, 99, 115, 32, 52, 10, 112, 105, 112, 101, 32, 56, 10, 115, 121, 115, 10]⟩, .string ⟨#[115, 121, 115, 10]⟩, .string ⟨#[]⟩, .int .i64 1] W fun e w' => e = .returned (.string tC) ∧ Below w.heap.size w w' from by
    rw [← htC]
    exact (rep_any (hG.below hW).isa.max [115, 121, 115, 10] [] txC (by decide) (by decide) (by decide +kernel) repC).mono fun e w' ⟨he, hb⟩ => ⟨he, bl_step hW hb⟩)
  have HWC := Lib.hid (fun W (hW : Below w.heap.size w W) => show Calls Tryz.prog 17 #[.string tC, .int .i64 0] W fun e w' => e = .returned (.bool true) ∧ Below w.heap.size w w' from by
    rw [← htC]
    exact (wrong_any (hG.below hW) txC (by decide) wrC).mono fun e w' ⟨he, hb⟩ => ⟨he, bl_step hW hb⟩)
  clear htC
  obtain ⟨tD, htD⟩ : ∃ t : ByteArray, (⟨txD.toArray⟩ : ByteArray) = t := ⟨_, rfl⟩
  have HRD := Lib.hid (fun W (hW : Below w.heap.size w W) => show Calls Tryz.prog 18 #[.string ⟨#[99, 111, 114, 101, 115, 32, 50, 10, 102, 114, 97, 109, 101, 115, 32, 49, 54, 10, 112, 114, 111, 99, 115, 32, 52, 10, 112, 105, 112, 101, 32, 56, 10, 115, 121, 115, 10]⟩, .string ⟨#[115, 121, 115]⟩, .string ⟨#[115, 117, 115]⟩, .int .i64 1] W fun e w' => e = .returned (.string tD) ∧ Below w.heap.size w w' from by
    rw [← htD]
    exact (rep_any (hG.below hW).isa.max [115, 121, 115] [115, 117, 115] txD (by decide) (by decide) (by decide +kernel) repD).mono fun e w' ⟨he, hb⟩ => ⟨he, bl_step hW hb⟩)
  have HWD := Lib.hid (fun W (hW : Below w.heap.size w W) => show Calls Tryz.prog 17 #[.string tD, .int .i64 5] W fun e w' => e = .returned (.bool true) ∧ Below w.heap.size w w' from by
    rw [← htD]
    exact (wrong_any (hG.below hW) txD (by decide) wrD).mono fun e w' ⟨he, hb⟩ => ⟨he, bl_step hW hb⟩)
  clear htD
  have HWN := Lib.hid (fun W (hW : Below w.heap.size w W) => show Calls Tryz.prog 17 #[.string ⟨#[]⟩, .int .i64 1] W fun e w' => e = .returned (.bool true) ∧ Below w.heap.size w w' from (wrong_any (hG.below hW) [] (by decide) wrN).mono fun e w' ⟨he, hb⟩ => ⟨he, bl_step hW hb⟩)
  have HWE := Lib.hid (fun W (hW : Below w.heap.size w W) => show Calls Tryz.prog 17 #[.string ⟨#[99, 111, 114, 101, 115, 32, 50]⟩, .int .i64 1] W fun e w' => e = .returned (.bool true) ∧ Below w.heap.size w w' from (wrong_any (hG.below hW) txE (by decide) wrE).mono fun e w' ⟨he, hb⟩ => ⟨he, bl_step hW hb⟩)
  have HWF := Lib.hid (fun W (hW : Below w.heap.size w W) => show Calls Tryz.prog 17 #[.string ⟨#[99, 111, 114, 101, 115, 32, 50, 10]⟩, .int .i64 2] W fun e w' => e = .returned (.bool true) ∧ Below w.heap.size w w' from (wrong_any (hG.below hW) txF (by decide) wrF).mono fun e w' ⟨he, hb⟩ => ⟨he, bl_step hW hb⟩)
  have HWG := Lib.hid (fun W (hW : Below w.heap.size w W) => show Calls Tryz.prog 17 #[.string ⟨#[99, 111, 114, 101, 115, 32, 48, 10]⟩, .int .i64 1] W fun e w' => e = .returned (.bool true) ∧ Below w.heap.size w w' from (wrong_any (hG.below hW) txG (by decide) wrG).mono fun e w' ⟨he, hb⟩ => ⟨he, bl_step hW hb⟩)
  have HS := Lib.hid (fun W (hW : Below w.heap.size w W) => show Calls Tryz.prog 19 #[] W fun e w' => ∃ A ca, e = .returned (.agg #[.int .i64 2, .int .i64 16, .int .i64 4, .int .i64 8, .slice A 1 ca]) ∧ I.WordsAt w' A [402653184] ∧ Below W.heap.size W w' from some_any W)
  have HBY := Lib.hid (fun W (A : Option Addr) (ca : Nat) (k : Int) (l : List Int) (hA : I.WordsAt W A [402653184]) (hk : pageOf (mayB 2 16 4 8 1) [402653184] k = l) => show Calls Tryz.prog 14 #[.agg #[.int .i64 2, .int .i64 16, .int .i64 4, .int .i64 8, .slice A 1 ca], .int .i64 k] W fun e w' => ∃ B cb, e = .returned (.slice B l.length cb) ∧ BytesAt w' B l ∧ Below W.heap.size W w' from by
    refine (callsIn_wide.1 (bootBytes_in 16 (by omega) 2 16 4 8 k A ca [402653184] (by decide) words_lit W hA)).mono fun e w' hR => ?_
    obtain ⟨v, h1, h2, h3⟩ := hR
    rw [show ([402653184] : List Int).length = 1 from rfl, hk] at h2
    obtain ⟨B, cb, rfl, hB, _⟩ := ownB_at h2
    exact ⟨B, cb, h1, hB, h3⟩)
  have HPG := Lib.hid (fun W (A : Option Addr) (ca : Nat) (hA : I.WordsAt W A [402653184]) => show Calls Tryz.prog 16 #[.agg #[.int .i64 2, .int .i64 16, .int .i64 4, .int .i64 8, .slice A 1 ca]] W fun e w' => e = .returned (.int .i64 1) ∧ Below W.heap.size W w' from by
    have h := callsIn_wide.1 (bootPages_in 16 (by omega) 2 16 4 8 A ca [402653184] (by decide) words_lit W hA)
    exact h)
  have HPX := Lib.hid (fun W => show Calls Tryz.prog 16 #[.agg #[.int .i64 2, .int .i64 16, .int .i64 4, .int .i64 8, .slice none 0 0]] W fun e w' => e = .returned (.int .i64 0) ∧ Below W.heap.size W w' from by
    have h := callsIn_wide.1 (bootPages_in 16 (by omega) 2 16 4 8 none 0 [] (by decide) (fun i x hx => by simp at hx) W (words_nil W none))
    exact h)
  have HCX := Lib.hid (fun W => show Calls Tryz.prog 10 #[.agg #[.int .i64 2, .int .i64 16, .int .i64 4, .int .i64 8, .slice none 0 0]] W fun e w' => e = .returned (.int .i64 190) ∧ Below W.heap.size W w' from by
    have h := check_any (w := W) 2 16 4 8 none 0 0 (by omega)
    rw [may_x] at h
    exact h)
  have HCY := Lib.hid (fun W (A : Option Addr) (ca : Nat) => show Calls Tryz.prog 10 #[.agg #[.int .i64 9, .int .i64 16, .int .i64 4, .int .i64 8, .slice A 1 ca]] W fun e w' => e = .returned (.int .i64 190) ∧ Below W.heap.size W w' from by
    have h := check_any (w := W) 9 16 4 8 A 1 ca (by omega)
    rw [may_y] at h
    exact h)
  have HSM := Lib.hid (fun W (A B : Option Addr) (ca cb : Nat) (hA : I.WordsAt W A [402653184]) (hB : I.WordsAt W B [402653184]) => show Calls Tryz.prog 12 #[.agg #[.int .i64 2, .int .i64 16, .int .i64 4, .int .i64 8, .slice A 1 ca], .agg #[.int .i64 2, .int .i64 16, .int .i64 4, .int .i64 8, .slice B 1 cb]] W fun e w' => e = .returned (.bool true) ∧ Below W.heap.size W w' from sameN_any 2 16 4 8 A B ca cb [402653184] hA hB (by decide))
  have HSN := Lib.hid (fun W (A B : Option Addr) (ca cb : Nat) => show Calls Tryz.prog 12 #[.agg #[.int .i64 2, .int .i64 16, .int .i64 4, .int .i64 8, .slice A 1 ca], .agg #[.int .i64 9, .int .i64 16, .int .i64 4, .int .i64 8, .slice B 1 cb]] W fun e w' => e = .returned (.bool false) ∧ Below W.heap.size W w' from sameNo_any 2 16 4 8 9 16 4 8 A B 1 1 ca cb (by decide))
  have HAL := Lib.hid (fun W (hW : Below w.heap.size w W) => alive_any (hG.below hW))
  have HB0 := Lib.hid (Below.refl w.heap.size w)
  clear hG
  go_enter Tryz.func5, Tryz.ntmps5
  go_wp2_with fail
  refine (HRA.out _ HB0.out).mono ?_
  rintro e W1 ⟨rfl, hb1⟩
  have HB1 := Lib.hid hb1
  clear hb1 HRA
  go_wp2_with fail
  refine (HWA.out _ HB1.out).mono ?_
  rintro e W2 ⟨rfl, hb2⟩
  have HB2 := Lib.hid hb2
  clear hb2 HWA
  go_wp2_with fail
  refine (HRB.out _ HB2.out).mono ?_
  rintro e W3 ⟨rfl, hb3⟩
  have HB3 := Lib.hid hb3
  clear hb3 HRB
  go_wp2_with fail
  refine (HWB.out _ HB3.out).mono ?_
  rintro e W4 ⟨rfl, hb4⟩
  have HB4 := Lib.hid hb4
  clear hb4 HWB
  go_wp2_with fail
  refine (HRC.out _ HB4.out).mono ?_
  rintro e W5 ⟨rfl, hb5⟩
  have HB5 := Lib.hid hb5
  clear hb5 HRC
  go_wp2_with fail
  refine (HWC.out _ HB5.out).mono ?_
  rintro e W6 ⟨rfl, hb6⟩
  have HB6 := Lib.hid hb6
  clear hb6 HWC
  go_wp2_with fail
  refine (HRD.out _ HB6.out).mono ?_
  rintro e W7 ⟨rfl, hb7⟩
  have HB7 := Lib.hid hb7
  clear hb7 HRD
  go_wp2_with fail
  refine (HWD.out _ HB7.out).mono ?_
  rintro e W8 ⟨rfl, hb8⟩
  have HB8 := Lib.hid hb8
  clear hb8 HWD
  go_wp2_with fail
  refine (HWN.out _ HB8.out).mono ?_
  rintro e W9 ⟨rfl, hb9⟩
  have HB9 := Lib.hid hb9
  clear hb9 HWN
  go_wp2_with fail
  refine (HWE.out _ HB9.out).mono ?_
  rintro e W10 ⟨rfl, hb10⟩
  have HB10 := Lib.hid hb10
  clear hb10 HWE
  go_wp2_with fail
  refine (HWF.out _ HB10.out).mono ?_
  rintro e W11 ⟨rfl, hb11⟩
  have HB11 := Lib.hid hb11
  clear hb11 HWF
  go_wp2_with fail
  refine (HWG.out _ HB11.out).mono ?_
  rintro e W12 ⟨rfl, hb12⟩
  have HB12 := Lib.hid hb12
  clear hb12 HWG
  clear HB0 HB1 HB2 HB3 HB4 HB5 HB6 HB7 HB8 HB9 HB10 HB11
  go_wp2_with fail
  refine (HS.out _ HB12.out).mono ?_
  rintro e W13 ⟨A1, c1, rfl, hA1, hb1⟩
  have hx1 := Blk.new W13 24 #[.int .i64 2, .int .i64 16, .int .i64 4, .int .i64 8, .slice A1 1 c1]
  have f4 := hx1.frozen 4
  obtain ⟨x0, x1, x2, x3, x4, xlt⟩ := rcells' hx1
  have HX := Lib.hid (Blk.new W13 24 #[.int .i64 2, .int .i64 16, .int .i64 4, .int .i64 8, .slice none 0 0])
  have HB := Lib.hid ((bl_step HB12.out hb1).alloc (bl_step HB12.out hb1).size (.cells #[.int .i64 2, .int .i64 16, .int .i64 4, .int .i64 8, .slice none 0 0] 24))
  clear hA1 hb1 hx1 HB12
  go_wp2_with fail
  refine (HS.out _ HB.out).mono ?_
  rintro e W14 ⟨A2, c2, rfl, hA2, hb2⟩
  have HX2 := Lib.hid (HX.out.below hb2 HX.out.lt)
  have HB2 := Lib.hid (bl_step HB.out hb2)
  clear f4 x0 x1 x2 x3 x4 xlt HX HB hb2
  have hy1 := Blk.new W14 24 #[.int .i64 2, .int .i64 16, .int .i64 4, .int .i64 8, .slice A2 1 c2]
  have f0 := hy1.frozen 0
  obtain ⟨y0, y1, y2, y3, y4, ylt⟩ := rcells' hy1
  have HY := Lib.hid (Blk.new W14 24 #[.int .i64 9, .int .i64 16, .int .i64 4, .int .i64 8, .slice A2 1 c2])
  have HX3 := Lib.hid (HX2.out.alloc (.cells #[.int .i64 9, .int .i64 16, .int .i64 4, .int .i64 8, .slice A2 1 c2] 24))
  have HB3 := Lib.hid (HB2.out.alloc HB2.out.size (.cells #[.int .i64 9, .int .i64 16, .int .i64 4, .int .i64 8, .slice A2 1 c2] 24))
  have HA3 := Lib.hid (hA2.below ((Below.refl _ W14).alloc (Nat.le_refl _) (.cells #[.int .i64 9, .int .i64 16, .int .i64 4, .int .i64 8, .slice A2 1 c2] 24)))
  clear hA2 hy1 HX2 HB2
  go_wp2_with fail
  refine (HS.out _ HB3.out).mono ?_
  rintro e W15 ⟨A3, c3, rfl, hA3, hb3⟩
  have HX4 := Lib.hid (HX3.out.below hb3 HX3.out.lt)
  have HY4 := Lib.hid (HY.out.below hb3 HY.out.lt)
  have HB4 := Lib.hid (bl_step HB3.out hb3)
  have HA4 := Lib.hid hA3
  clear f0 y0 y1 y2 y3 y4 ylt HX3 HY HB3 HA3 hA3 hb3
  go_wp2_with fail
  refine (HBY.out _ _ _ 0 pageZ HA4.out page_lit).mono ?_
  rintro e W16 ⟨B, cb, rfl, hB, hb4⟩
  rw [show pageZ.length = 64 from rfl]
  have HX5 := Lib.hid (HX4.out.below hb4 HX4.out.lt)
  have HY5 := Lib.hid (HY4.out.below hb4 HY4.out.lt)
  have HB5 := Lib.hid (bl_step HB4.out hb4)
  obtain ⟨g, off, rfl, hgl, hgc⟩ := byte_at hB (show pageZ[3]? = some 24 from rfl)
  have HGB := Lib.hid hB
  clear HX4 HY4 HB4 HA4 hB hb4 hgl hgc
  obtain ⟨W0, hW0⟩ : ∃ W0, W16 = W0 := ⟨_, rfl⟩
  rw [hW0] at HX5 HY5 HB5 HGB ⊢
  have hCC := fun W (hW : Below W0.heap.size W0 W) => show (W.cell? ⟨W13.heap.size, 0, none⟩ = some (.int .i64 2) ∧ W.cell? ⟨W13.heap.size, 1, none⟩ = some (.int .i64 16) ∧ W.cell? ⟨W13.heap.size, 2, none⟩ = some (.int .i64 4) ∧ W.cell? ⟨W13.heap.size, 3, none⟩ = some (.int .i64 8) ∧ W.cell? ⟨W13.heap.size, 4, none⟩ = some (.slice none 0 0)) ∧ (W.cell? ⟨W14.heap.size, 0, none⟩ = some (.int .i64 9) ∧ W.cell? ⟨W14.heap.size, 1, none⟩ = some (.int .i64 16) ∧ W.cell? ⟨W14.heap.size, 2, none⟩ = some (.int .i64 4) ∧ W.cell? ⟨W14.heap.size, 3, none⟩ = some (.int .i64 8) ∧ W.cell? ⟨W14.heap.size, 4, none⟩ = some (.slice A2 1 c2)) ∧ W.cell? ⟨g, off + 3, none⟩ = some (.int .u8 24) from by
    have hx := rcells' (HX5.out.below hW HX5.out.lt)
    have hy := rcells' (HY5.out.below hW HY5.out.lt)
    obtain ⟨g', off', e1, _, hc⟩ := byte_at (RowsAt.below HGB.out hW) (show pageZ[3]? = some 24 from rfl)
    injection e1 with e1
    injection e1 with e1 e2 _
    subst e1 e2
    exact ⟨⟨hx.1, hx.2.1, hx.2.2.1, hx.2.2.2.1, hx.2.2.2.2.1⟩, ⟨hy.1, hy.2.1, hy.2.2.1, hy.2.2.2.1, hy.2.2.2.2.1⟩, hc⟩
  have HC := Lib.hid hCC
  have hB0 := Below.refl W0.heap.size W0
  have HBN := Lib.hid (fun W (hW : Below W0.heap.size W0 W) => bl_step HB5.out hW)
  have HALN := Lib.hid (fun W (hW : Below W0.heap.size W0 W) => show Calls Tryz.prog 13 #[] W fun e w' => e = .returned (.bool true) ∧ Below W0.heap.size W0 w' from (HAL.out W (bl_step HB5.out hW)).mono fun e w' ⟨he, hb⟩ => ⟨he, bl_step hW hb⟩)
  have HSN' := Lib.hid (fun W (hW : Below W0.heap.size W0 W) => show Calls Tryz.prog 19 #[] W fun e w' => ∃ A ca, e = .returned (.agg #[.int .i64 2, .int .i64 16, .int .i64 4, .int .i64 8, .slice A 1 ca]) ∧ KeptN w' A ∧ Below W.heap.size W w' ∧ Below W0.heap.size W0 w' from (HS.out W (bl_step HB5.out hW)).mono fun e w' ⟨A, ca, he, hA, hb⟩ => ⟨A, ca, he, ⟨fun W' h' => hA.below h'⟩, hb, bl_step hW hb⟩)
  have HPGN := Lib.hid (fun W (A : Option Addr) (ca : Nat) (hW : Below W0.heap.size W0 W) (hA : KeptN W A) => show Calls Tryz.prog 16 #[.agg #[.int .i64 2, .int .i64 16, .int .i64 4, .int .i64 8, .slice A 1 ca]] W fun e w' => e = .returned (.int .i64 1) ∧ Below W0.heap.size W0 w' from (HPG.out W A ca (hA.at_ W (Below.refl _ _))).mono fun e w' ⟨he, hb⟩ => ⟨he, bl_step hW hb⟩)
  have HPXN := Lib.hid (fun W (hW : Below W0.heap.size W0 W) => show Calls Tryz.prog 16 #[.agg #[.int .i64 2, .int .i64 16, .int .i64 4, .int .i64 8, .slice none 0 0]] W fun e w' => e = .returned (.int .i64 0) ∧ Below W0.heap.size W0 w' from (HPX.out W).mono fun e w' ⟨he, hb⟩ => ⟨he, bl_step hW hb⟩)
  have HCXN := Lib.hid (fun W (hW : Below W0.heap.size W0 W) => show Calls Tryz.prog 10 #[.agg #[.int .i64 2, .int .i64 16, .int .i64 4, .int .i64 8, .slice none 0 0]] W fun e w' => e = .returned (.int .i64 190) ∧ Below W0.heap.size W0 w' from (HCX.out W).mono fun e w' ⟨he, hb⟩ => ⟨he, bl_step hW hb⟩)
  have HCYN := Lib.hid (fun W (hW : Below W0.heap.size W0 W) => show Calls Tryz.prog 10 #[.agg #[.int .i64 9, .int .i64 16, .int .i64 4, .int .i64 8, .slice A2 1 c2]] W fun e w' => e = .returned (.int .i64 190) ∧ Below W0.heap.size W0 w' from (HCY.out W A2 c2).mono fun e w' ⟨he, hb⟩ => ⟨he, bl_step hW hb⟩)
  have HBY1 := Lib.hid (fun W (A : Option Addr) (ca : Nat) (hW : Below W0.heap.size W0 W) (hA : KeptN W A) => show Calls Tryz.prog 14 #[.agg #[.int .i64 2, .int .i64 16, .int .i64 4, .int .i64 8, .slice A 1 ca], .int .i64 1] W fun e w' => ∃ B cb, e = .returned (.slice B 0 cb) ∧ Below W0.heap.size W0 w' from (HBY.out W A ca 1 [] (hA.at_ W (Below.refl _ _)) page_one).mono fun e w' ⟨B, cb, he, _, hb⟩ => ⟨B, cb, he, bl_step hW hb⟩)
  have HBYN := Lib.hid (fun W (A : Option Addr) (ca : Nat) (hW : Below W0.heap.size W0 W) (hA : KeptN W A) => show Calls Tryz.prog 14 #[.agg #[.int .i64 2, .int .i64 16, .int .i64 4, .int .i64 8, .slice A 1 ca], .int .i64 (-1)] W fun e w' => ∃ B cb, e = .returned (.slice B 0 cb) ∧ Below W0.heap.size W0 w' from (HBY.out W A ca (-1) [] (hA.at_ W (Below.refl _ _)) page_neg).mono fun e w' ⟨B, cb, he, _, hb⟩ => ⟨B, cb, he, bl_step hW hb⟩)
  have HSMN := Lib.hid (fun W V (A B : Option Addr) (ca cb : Nat) (hW : Below W0.heap.size W0 W) (hA : KeptN V A) (hVW : Below V.heap.size V W) (hB : KeptN W B) => (HSM.out W A B ca cb (hA.at_ W hVW) (hB.at_ W (Below.refl _ _))).mono fun e w' ⟨he, hb⟩ => show e = Ending.returned (.bool true) ∧ Below W0.heap.size W0 w' from ⟨he, bl_step hW hb⟩)
  have HSNN := Lib.hid (fun W (A : Option Addr) (ca : Nat) (hW : Below W0.heap.size W0 W) => (HSN.out W A A2 ca c2).mono fun e w' ⟨he, hb⟩ => show e = Ending.returned (.bool false) ∧ Below W0.heap.size W0 w' from ⟨he, bl_step hW hb⟩)
  obtain ⟨⟨x0, x1, x2, x3, x4⟩, ⟨y0, y1, y2, y3, y4⟩, z3⟩ := HC.out W0 (Below.refl _ _)
  clear hCC HX5 HY5 HB5 HGB HAL HS HPG HPX HCX HCY HBY HSM HSN hW0
  go_wp2_with fail
  first
  | (go_region_held3 (fun W => (W.cell? ⟨W13.heap.size, 0, none⟩ = some (.int .i64 2) ∧ W.cell? ⟨W13.heap.size, 1, none⟩ = some (.int .i64 16) ∧ W.cell? ⟨W13.heap.size, 2, none⟩ = some (.int .i64 4) ∧ W.cell? ⟨W13.heap.size, 3, none⟩ = some (.int .i64 8) ∧ W.cell? ⟨W13.heap.size, 4, none⟩ = some (.slice none 0 0)) ∧ (W.cell? ⟨W14.heap.size, 0, none⟩ = some (.int .i64 9) ∧ W.cell? ⟨W14.heap.size, 1, none⟩ = some (.int .i64 16) ∧ W.cell? ⟨W14.heap.size, 2, none⟩ = some (.int .i64 4) ∧ W.cell? ⟨W14.heap.size, 3, none⟩ = some (.int .i64 8) ∧ W.cell? ⟨W14.heap.size, 4, none⟩ = some (.slice A2 1 c2)) ∧ W.cell? ⟨g, off + 3, none⟩ = some (.int .u8 24))
    (first | exact (HC.out _ (by repeat (first | assumption | refine Below.drew ?_))))
    (first
      | (go_at_call 13; refine (HALN.out _ ?_).mono ?_; (focus (repeat (first | assumption | refine Below.drew ?_))); rintro e V1 ⟨rfl, hV1⟩)
      | (go_at_call 19; refine (HSN'.out _ ?_).mono ?_; (focus (repeat (first | assumption | refine Below.drew ?_))); rintro e V1 ⟨A5, c5, rfl, hA5, hV5, hV1⟩)
      | (go_at_call_of 10 (Value.slice none 0 0); refine (HCXN.out _ ?_).mono ?_; (focus (repeat (first | assumption | refine Below.drew ?_))); rintro e V1 ⟨rfl, hV1⟩)
      | (go_at_call 10; refine (HCYN.out _ ?_).mono ?_; (focus (repeat (first | assumption | refine Below.drew ?_))); rintro e V1 ⟨rfl, hV1⟩)
      | (go_at_call_of 16 (Value.slice none 0 0); refine (HPXN.out _ ?_).mono ?_; (focus (repeat (first | assumption | refine Below.drew ?_))); rintro e V1 ⟨rfl, hV1⟩)
      | (go_at_call 16; refine (HPGN.out _ _ _ ?_ (by assumption)).mono ?_; (focus (repeat (first | assumption | refine Below.drew ?_))); rintro e V1 ⟨rfl, hV1⟩)
      | (go_at_call_of 14 (Value.int IntKind.i64 1); refine (HBY1.out _ _ _ ?_ (by assumption)).mono ?_; (focus (repeat (first | assumption | refine Below.drew ?_))); rintro e V1 ⟨B5, d5, rfl, hV1⟩)
      | (go_at_call 14; refine (HBYN.out _ _ _ ?_ (by assumption)).mono ?_; (focus (repeat (first | assumption | refine Below.drew ?_))); rintro e V1 ⟨B5, d5, rfl, hV1⟩)
      | (go_at_call_of 12 (Value.slice A2 1 c2); refine (HSNN.out _ _ _ ?_).mono ?_; (focus (repeat (first | assumption | refine Below.drew ?_))); rintro e V1 ⟨rfl, hV1⟩)
      | (go_at_call 12; refine (HSMN.out _ _ _ _ _ _ ?_ (by assumption) (by assumption) (by assumption)).mono ?_; (focus (repeat (first | assumption | refine Below.drew ?_))); rintro e V1 ⟨rfl, hV1⟩)))
  | (fail)
  rename World => wn
  have hbn : Below W0.heap.size W0 wn := by assumption
  have HFIN := Lib.hid (HBN.out wn hbn)
  go_wp2
  go_ret
  exact ⟨by first | rfl | (simp; done), HFIN.out⟩
end
end Go.Proofs.YtpikgebfeleajaaGreatDoor
