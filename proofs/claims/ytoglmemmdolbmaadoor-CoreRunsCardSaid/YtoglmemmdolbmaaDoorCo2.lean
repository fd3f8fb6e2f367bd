/-
  A Cpu, and what is fetched, walked. Condition: the tables lie as the program's text lays them; a memory lies in blocks of its own.
-/
import Derived.Laws.BitsAllLaws
import Derived.Laws.IdiomCopy
import Derived.Lib.EndianBits
import Derived.Lib.SlBuf
import Derived.Test.YtoglmemmdolbmaaDoorIter
import Derived.Test.YtoglmemmdolbmaaDoorRowMem
import Derived.Test.YtoglmemmdolbmaaDoorIs3
import Derived.Test.YtoglmemmdolbmaaDoorRes
namespace Go.Proofs.YtoglmemmdolbmaaDoor
section
open Go.RowKit
set_option linter.unusedVariables false
set_option linter.unusedSimpArgs false

/-- Bytes in a slice: from the start of block B on. -/
def RowB (w : World) (A : Option Addr) (B : Nat) (m : List Int) : Prop :=
  m ≠ [] → A = some ⟨B, 0, none⟩ ∧ ∃ cs, Blk w B 5 cs ∧ m.length ≤ cs.size ∧ ∀ (i : Nat) (x : Int), m[i]? = some x → cs[i]? = some (.int .u8 x)
/-- A memory in block g: bytes, from 0 to 255. -/
structure RamAt (w : World) (g : Nat) (A : Option Addr) (B cap : Nat) (m : List Int) : Prop where
  p : Blk w g 46 #[.slice A m.length cap]
  row : RowB w A B m
  cap : m.length ≤ cap
  ne : g ≠ B
  low : ∀ x ∈ m, 0 ≤ x ∧ x ≤ 255
  len : m.length ≤ 1000000
theorem RamAt.cell {w : World} {g : Nat} {A : Option Addr} {B cap : Nat} {m : List Int} (h : RamAt w g A B cap m) {i : Nat} {x : Int} (hx : m[i]? = some x) : A = some ⟨B, 0, none⟩ ∧ B < w.heap.size ∧ w.cell? ⟨B, i, none⟩ = some (.int .u8 x) ∧ w.frozen? ⟨B, i, none⟩ = false := by
  have hne : m ≠ [] := by rintro rfl; simp at hx
  obtain ⟨hA, cs, hb, _, hc⟩ := h.row hne
  exact ⟨hA, hb.lt, (hb.cell i).trans (hc i x hx), hb.frozen i⟩
theorem RamAt.below {w w' : World} {g : Nat} {A : Option Addr} {B cap : Nat} {m : List Int} (h : RamAt w g A B cap m) (hb : Below w.heap.size w w') : RamAt w' g A B cap m :=
  ⟨h.p.below hb h.p.lt, fun hne => by
    obtain ⟨hA, cs, hc, rest⟩ := h.row hne
    exact ⟨hA, cs, hc.below hb hc.lt, rest⟩, h.cap, h.ne, h.low, h.len⟩
/-- The word at an address, the lowest byte first. -/
def w4 (b0 b1 b2 b3 : Int) : Int := b0 + 256 * b1 + 65536 * b2 + 16777216 * b3
def wordM (m : List Int) (a : Nat) : Option Int := if a + 4 ≤ m.length then some (w4 (m.getD a 0) (m.getD (a + 1) 0) (m.getD (a + 2) 0) (m.getD (a + 3) 0)) else none

set_option maxRecDepth 100000 in
set_option maxHeartbeats 2000000 in
theorem has_any {w : World} {g : Nat} {A : Option Addr} {B cap : Nat} {m : List Int} (h : RamAt w g A B cap m) (a k : Nat) (ha : a < 4294967296) (hk : k ≤ 4) :
    Calls Tryd.prog 45 #[.pointer (some ⟨g, 0, none⟩), .int .u32 (a : Int), .int .i64 (k : Int)] w fun e w' => e = .returned (.bool (decide (a + k ≤ m.length))) ∧ w' = w := by
  have c0 := (h.p.cell 0).trans (show _ = some (.slice A m.length cap) from rfl)
  have hlt := h.p.lt
  have hl := h.len
  have hd : decide (a + k ≤ m.length) = decide ((a : Int) + (k : Int) ≤ (m.length : Int)) := by
    by_cases hx : a + k ≤ m.length
    · rw [decide_eq_true hx, decide_eq_true (by omega)]
    · rw [decide_eq_false hx, decide_eq_false (by omega)]
  rw [hd]
  clear hd h
  go_enter Tryd.func45, Tryd.ntmps45
  go_wp2
  go_ret
  exact ⟨by first | rfl | simp, rfl⟩
set_option maxRecDepth 100000 in
set_option maxHeartbeats 2000000 in
theorem has_nil {w : World} (a k : Int) :
    Calls Tryd.prog 45 #[.pointer none, .int .u32 a, .int .i64 k] w fun e w' => e = .returned (.bool false) ∧ w' = w := by
  go_enter Tryd.func45, Tryd.ntmps45
  go_wp2
  go_ret
  exact ⟨rfl, rfl⟩
theorem or_bytes (b0 b1 b2 b3 : Int) (p0 : 0 ≤ b0) (p1 : b0 ≤ 255) (p2 : 0 ≤ b1) (p3 : b1 ≤ 255) (p4 : 0 ≤ b2) (p5 : b2 ≤ 255) (p6 : 0 ≤ b3) (p7 : b3 ≤ 255) :
    bits .or .u32 (bits .or .u32 (bits .or .u32 b0 (b1 * 256)) (b2 * 65536)) (b3 * 16777216) = w4 b0 b1 b2 b3 := by
  have q8 : (2 : Int) ^ 8 = 256 := by decide
  have q24 : (2 : Int) ^ 24 = 16777216 := by decide
  have q16 : (2 : Int) ^ 16 = 65536 := by decide
  have q32 : (2 : Int) ^ 32 = 4294967296 := by decide
  have J := fun i y x h1 h2 h3 h4 h5 h6 => bits_join_low .u32 32 (by decide) wraps_u32 i y x h1 h2 h3 h4 h5 h6
  rw [J 8 b0 (b1 * 256) p0 (by rw [q8]; omega) (by rw [q32]; omega) (by omega) (by rw [q8]; omega) (by rw [q32]; omega)]
  rw [J 16 (b0 + b1 * 256) (b2 * 65536) (by omega) (by rw [q16]; omega) (by rw [q32]; omega) (by omega) (by rw [q16]; omega) (by rw [q32]; omega)]
  rw [J 24 (b0 + b1 * 256 + b2 * 65536) (b3 * 16777216) (by omega) (by rw [q24]; omega) (by rw [q32]; omega) (by omega) (by rw [q24]; omega) (by rw [q32]; omega)]
  unfold w4
  omega

set_option maxRecDepth 100000 in
set_option maxHeartbeats 4000000 in
theorem word_any {w : World} {g : Nat} {A : Option Addr} {B cap : Nat} {m : List Int} (h : RamAt w g A B cap m) (a : Nat) (ha : a < 4294967296) :
    Calls Tryd.prog 20 #[.pointer (some ⟨g, 0, none⟩), .int .u32 (a : Int)] w fun e w' => e = .returned (.tuple #[.int .u32 ((wordM m a).getD 0), .bool (wordM m a).isSome]) ∧ Below w.heap.size w w' := by
  have H := Lib.hid (has_any h a 4 ha (by omega))
  have c0 := (h.p.cell 0).trans (show _ = some (.slice A m.length cap) from rfl)
  have hlt := h.p.lt
  have hl := h.len
  have hcap := h.cap
  unfold wordM
  by_cases hf : a + 4 ≤ m.length
  · rw [decide_eq_true hf] at H
    rw [if_pos hf]
    have hx : ∀ i, i < m.length → m[i]? = some (m.getD i 0) := fun i hi => by rw [List.getD_eq_getElem?_getD, List.getElem?_eq_getElem hi]; rfl
    have hr : ∀ i, i < m.length → 0 ≤ m.getD i 0 ∧ m.getD i 0 ≤ 255 := fun i hi => h.low _ (List.mem_of_getElem? (hx i hi))
    obtain ⟨rfl, hB, d0, f0⟩ := h.cell (hx a (by omega))
    obtain ⟨_, _, d1, f1⟩ := h.cell (hx (a + 1) (by omega))
    obtain ⟨_, _, d2, f2⟩ := h.cell (hx (a + 2) (by omega))
    obtain ⟨_, _, d3, f3⟩ := h.cell (hx (a + 3) (by omega))
    obtain ⟨p0, p1⟩ := hr a (by omega)
    obtain ⟨p2, p3⟩ := hr (a + 1) (by omega)
    obtain ⟨p4, p5⟩ := hr (a + 2) (by omega)
    obtain ⟨p6, p7⟩ := hr (a + 3) (by omega)
    generalize m.getD a 0 = b0 at *
    generalize m.getD (a + 1) 0 = b1 at *
    generalize m.getD (a + 2) 0 = b2 at *
    generalize m.getD (a + 3) 0 = b3 at *
    have hfi : (a : Int) + 4 ≤ (m.length : Int) := by omega
    clear hx hr h
    go_enter Tryd.func20, Tryd.ntmps20
    go_wp2_with fail
    refine H.out.mono ?_
    rintro e w1 ⟨rfl, rfl⟩
    go_wp2_with (go_quiet (fail))
    go_ret2
    refine ⟨?_, below_drewN (Below.refl _ _) _⟩
    rw [show ((some (w4 b0 b1 b2 b3)).getD 0) = bits .or .u32 (bits .or .u32 (bits .or .u32 b0 (b1 * 256)) (b2 * 65536)) (b3 * 16777216) from (or_bytes b0 b1 b2 b3 p0 p1 p2 p3 p4 p5 p6 p7).symm]
    rfl
  · rw [decide_eq_false hf] at H
    rw [if_neg hf]
    clear h
    go_enter Tryd.func20, Tryd.ntmps20
    go_wp2_with fail
    refine H.out.mono ?_
    rintro e w1 ⟨rfl, rfl⟩
    go_wp2
    go_ret2
    exact ⟨rfl, Below.refl _ _⟩

set_option maxRecDepth 100000 in
set_option maxHeartbeats 4000000 in
theorem byte_any {w : World} {g : Nat} {A : Option Addr} {B cap : Nat} {m : List Int} (h : RamAt w g A B cap m) (a : Nat) (ha : a < 4294967296) :
    Calls Tryd.prog 18 #[.pointer (some ⟨g, 0, none⟩), .int .u32 (a : Int)] w fun e w' => e = .returned (.tuple #[.int .u8 (m.getD a 0), .bool (decide (a < m.length))]) ∧ w' = w := by
  have H := Lib.hid (has_any h a 1 ha (by omega))
  have c0 := (h.p.cell 0).trans (show _ = some (.slice A m.length cap) from rfl)
  have hlt := h.p.lt
  have hl := h.len
  have hcap := h.cap
  by_cases hf : a + 1 ≤ m.length
  · rw [decide_eq_true hf] at H
    rw [decide_eq_true (show a < m.length by omega)]
    have hx : m[a]? = some (m.getD a 0) := by rw [List.getD_eq_getElem?_getD, List.getElem?_eq_getElem (show a < m.length by omega)]; rfl
    obtain ⟨rfl, hB, d0, f0⟩ := h.cell hx
    generalize m.getD a 0 = b0 at *
    have hfi : (a : Int) < (m.length : Int) := by omega
    clear hx h
    go_enter Tryd.func18, Tryd.ntmps18
    go_wp2_with fail
    refine H.out.mono ?_
    rintro e w1 ⟨rfl, rfl⟩
    go_wp2
    go_ret2
    exact ⟨rfl, rfl⟩
  · rw [decide_eq_false hf] at H
    rw [decide_eq_false (show ¬ a < m.length by omega)]
    have h0 : m.getD a 0 = 0 := by rw [List.getD_eq_getElem?_getD, List.getElem?_eq_none (by omega)]; rfl
    rw [h0]
    clear h
    go_enter Tryd.func18, Tryd.ntmps18
    go_wp2_with fail
    refine H.out.mono ?_
    rintro e w1 ⟨rfl, rfl⟩
    go_wp2
    go_ret2
    exact ⟨rfl, rfl⟩

theorem RamAt.set {w : World} {g : Nat} {A : Option Addr} {B cap : Nat} {m : List Int} (h : RamAt w g A B cap m) {a : Nat} (ha : a < m.length) {v : Int} (hv : 0 ≤ v ∧ v ≤ 255) : RamAt (w.setCell ⟨B, a, none⟩ (.int .u8 v)) g A B cap (m.set a v) := by
  have hne : m ≠ [] := by rintro rfl; simp at ha
  obtain ⟨hA, cs, hb, hs, hc⟩ := h.row hne
  refine ⟨by rw [List.length_set]; exact h.p.far (by show g ≠ B; exact h.ne) _, fun _ => ⟨hA, _, hb.set_ a _, by rw [List.length_set, Array.size_setIfInBounds]; exact hs, fun i x hx => ?_⟩, by rw [List.length_set]; exact h.cap, h.ne, fun x hx => ?_, by rw [List.length_set]; exact h.len⟩
  · rw [List.getElem?_set] at hx
    rw [Array.getElem?_setIfInBounds]
    by_cases hai : a = i
    · subst hai
      rw [if_pos rfl, if_pos ha] at hx
      rw [if_pos rfl, if_pos (by omega)]
      injection hx with hx
      rw [hx]
    · rw [if_neg hai] at hx ⊢
      exact hc i x hx
  · rcases List.mem_or_eq_of_mem_set hx with hx | rfl
    · exact h.low x hx
    · exact hv
def set4 (m : List Int) (a : Nat) (v : Int) : List Int := (((m.set a (v % 256)).set (a + 1) (v / 256 % 256)).set (a + 2) (v / 65536 % 256)).set (a + 3) (v / 16777216)
theorem set4_len (m : List Int) (a : Nat) (v : Int) : (set4 m a v).length = m.length := by unfold set4; simp only [List.length_set]
theorem RamAt.set4 {w : World} {g : Nat} {A : Option Addr} {B cap : Nat} {m : List Int} (h : RamAt w g A B cap m) {a : Nat} (ha : a + 4 ≤ m.length) (v : Int) (hv : 0 ≤ v ∧ v ≤ 4294967295) :
    RamAt (w.setCells B a [.int .u8 (v % 256), .int .u8 (v / 256 % 256), .int .u8 (v / 65536 % 256), .int .u8 (v / 16777216)]) g A B cap (set4 m a v) := by
  have h0 := h.set (a := a) (v := v % 256) (by omega) (by omega)
  have h1 := h0.set (a := a + 1) (v := v / 256 % 256) (by rw [List.length_set]; omega) (by omega)
  have h2 := h1.set (a := a + 2) (v := v / 65536 % 256) (by simp only [List.length_set]; omega) (by omega)
  exact h2.set (a := a + 3) (v := v / 16777216) (by simp only [List.length_set]; omega) (by omega)

set_option maxRecDepth 100000 in
set_option maxHeartbeats 4000000 in
theorem setByte_any {w : World} {g : Nat} {A : Option Addr} {B cap : Nat} {m : List Int} (h : RamAt w g A B cap m) (a : Nat) (ha : a < 4294967296) (v : Int) (hv : 0 ≤ v ∧ v ≤ 255) :
    Calls Tryd.prog 21 #[.pointer (some ⟨g, 0, none⟩), .int .u32 (a : Int), .int .u8 v] w fun e w' => e = .returned (.bool (decide (a < m.length))) ∧ RamAt w' g A B cap (m.set a v) ∧ But (fun k => k = B) w w' := by
  have H := Lib.hid (has_any h a 1 ha (by omega))
  have c0 := (h.p.cell 0).trans (show _ = some (.slice A m.length cap) from rfl)
  have hlt := h.p.lt
  have hl := h.len
  have hcap := h.cap
  have HH := Lib.hid h
  by_cases hf : a + 1 ≤ m.length
  · rw [decide_eq_true hf] at H
    rw [decide_eq_true (show a < m.length by omega)]
    have hx : m[a]? = some (m.getD a 0) := by rw [List.getD_eq_getElem?_getD, List.getElem?_eq_getElem (show a < m.length by omega)]; rfl
    obtain ⟨rfl, hB, d0, f0⟩ := h.cell hx
    generalize m.getD a 0 = b0 at *
    have hfi : (a : Int) < (m.length : Int) := by omega
    have HF := Lib.hid (show a < m.length from by omega)
    have HV := Lib.hid hv
    clear hx h hv
    go_enter Tryd.func21, Tryd.ntmps21
    go_wp2_with fail
    refine H.out.mono ?_
    rintro e w1 ⟨rfl, rfl⟩
    go_wp2
    go_ret
    exact ⟨rfl, HH.out.set HF.out HV.out, But.setCell (S := fun k => k = B) (But.refl _ _) (p := ⟨B, a, none⟩) (.inl rfl) _⟩
  · rw [decide_eq_false hf] at H
    rw [decide_eq_false (show ¬ a < m.length by omega)]
    have h0 : m.set a v = m := List.set_eq_of_length_le (by omega)
    rw [h0]
    clear h h0
    go_enter Tryd.func21, Tryd.ntmps21
    go_wp2_with fail
    refine H.out.mono ?_
    rintro e w1 ⟨rfl, rfl⟩
    go_wp2
    go_ret
    exact ⟨rfl, HH.out, But.refl _ _⟩

theorem but_setCells {w w' : World} {B : Nat} (h : But (fun k => k = B) w w') (o : Nat) : ∀ (vs : List Value) (o : Nat) (w' : World), But (fun k => k = B) w w' → But (fun k => k = B) w (w'.setCells B o vs)
  | [], _, _, h => h
  | v :: vs, o, w', h => but_setCells (h.setCell (p := ⟨B, o, none⟩) (.inl rfl) v) (o + 1) vs (o + 1) _ (h.setCell (p := ⟨B, o, none⟩) (.inl rfl) v)
theorem sizeU8 : (Tryd.prog.info? 5).map (·.size) = some 1 := by kernel_rfl

set_option maxRecDepth 100000 in
set_option maxHeartbeats 4000000 in
theorem setWord_any {w : World} {g : Nat} {A : Option Addr} {B cap : Nat} {m : List Int} (h : RamAt w g A B cap m) (a : Nat) (ha : a < 4294967296) (v : Int) (hv : 0 ≤ v ∧ v ≤ 4294967295) :
    Calls Tryd.prog 19 #[.pointer (some ⟨g, 0, none⟩), .int .u32 (a : Int), .int .u32 v] w fun e w' => e = .returned (.bool (decide (a + 4 ≤ m.length))) ∧ RamAt w' g A B cap (if a + 4 ≤ m.length then set4 m a v else m) ∧ But (fun k => k = B) w w' := by
  have H := Lib.hid (has_any h a 4 ha (by omega))
  have c0 := (h.p.cell 0).trans (show _ = some (.slice A m.length cap) from rfl)
  have hlt := h.p.lt
  have hl := h.len
  have hcap := h.cap
  have HH := Lib.hid h
  obtain ⟨hv0, hv1⟩ := hv
  by_cases hf : a + 4 ≤ m.length
  · rw [decide_eq_true hf] at H
    rw [decide_eq_true hf, if_pos hf]
    have hx : ∀ i, i < m.length → m[i]? = some (m.getD i 0) := fun i hi => by rw [List.getD_eq_getElem?_getD, List.getElem?_eq_getElem hi]; rfl
    obtain ⟨rfl, hB, d0, f0⟩ := h.cell (hx a (by omega))
    have hfi : (a : Int) + 4 ≤ (m.length : Int) := by omega
    have HF := Lib.hid hf
    have hbn := (Below.refl w.heap.size w).alloc (Nat.le_refl _) (.cells #[.int .u8 (v % 256), .int .u8 (v / 256 % 256), .int .u8 (v / 65536 % 256), .int .u8 (v / 16777216)] 5)
    have hR1 := h.below hbn
    have hnew := Blk.new w 5 #[.int .u8 (v % 256), .int .u8 (v / 256 % 256), .int .u8 (v / 65536 % 256), .int .u8 (v / 16777216)]
    have hrun := run_copy_cells (P := Tryd.prog) (w.alloc (.cells #[.int .u8 (v % 256), .int .u8 (v / 256 % 256), .int .u8 (v / 65536 % 256), .int .u8 (v / 16777216)] 5)) 43 43 3 5 B a (m.length - a) (cap - a) ⟨w.heap.size, 0, none⟩ 4 4 [.int .u8 (v % 256), .int .u8 (v / 256 % 256), .int .u8 (v / 65536 % 256), .int .u8 (v / 16777216)]
      Tryd.underlying43 sizeU8 (by show 4 = min 4 (m.length - a); omega)
      (fun j u hj => by rw [add_eq]; simp only [Nat.zero_add]; rw [hnew.cell]; simpa using hj)
      (fun j hj => by
        have hj4 : j < 4 := hj
        obtain ⟨_, _, d, _⟩ := hR1.cell (hx (a + j) (by omega))
        rw [d]; rfl)
      (fun j hj => by
        have hj4 : j < 4 := hj
        obtain ⟨_, _, _, f⟩ := hR1.cell (hx (a + j) (by omega))
        exact f)
      (by intro u hu; simp only [List.mem_cons, List.not_mem_nil, or_false] at hu; rcases hu with rfl | rfl | rfl | rfl <;> rfl)
    have HR1 := Lib.hid hR1
    have HBN := Lib.hid hbn
    have HRUN := Lib.hid hrun
    clear hx h hbn hR1 hnew hrun
    go_enter Tryd.func19, Tryd.ntmps19
    go_wp2_with fail
    refine H.out.mono ?_
    rintro e w1 ⟨rfl, rfl⟩
    have hrun := HRUN.out
    go_wp2
    go_ret
    exact ⟨rfl, HR1.out.set4 HF.out v ⟨hv0, hv1⟩, but_setCells (But.refl _ _) 0 _ _ _ (But.of_below HBN.out)⟩
  · rw [decide_eq_false hf] at H
    rw [decide_eq_false hf, if_neg hf]
    clear h
    go_enter Tryd.func19, Tryd.ntmps19
    go_wp2_with fail
    refine H.out.mono ?_
    rintro e w1 ⟨rfl, rfl⟩
    go_wp2
    go_ret
    exact ⟨rfl, HH.out, But.refl _ _⟩
end
end Go.Proofs.YtoglmemmdolbmaaDoor
namespace Go.Proofs.YtoglmemmdolbmaaDoor
section
open Go.RowKit
set_option linter.unusedVariables false
set_option linter.unusedSimpArgs false
attribute [local go_sem] Oper.semAt_some

theorem bl_step {v W W1 : World} (h : Below v.heap.size v W) (h1 : Below W.heap.size W W1) : Below v.heap.size v W1 := h.trans (h1.mono h.size)
theorem bl_new {v W : World} (h : Below v.heap.size v W) (o : Obj) : Below v.heap.size v (W.alloc o) := h.alloc h.size o
theorem ccells {w : World} {g : Nat} {t : TypeId} {a b c d : Value} (h : Blk w g t #[a, b, c, d]) : w.cell? ⟨g, 0, none⟩ = some a ∧ w.cell? ⟨g, 1, none⟩ = some b ∧ w.cell? ⟨g, 2, none⟩ = some c ∧ w.cell? ⟨g, 3, none⟩ = some d ∧ g < w.heap.size :=
  ⟨h.cell 0, h.cell 1, h.cell 2, h.cell 3, h.lt⟩
theorem set4_blk {W : World} {b : Nat} {t : TypeId} {v0 v1 v2 v3 : Value} (h : Blk W b t #[v0, v1, v2, v3]) (u0 u1 u2 u3 : Value) : Blk ((((W.setCell ⟨b, 0, none⟩ u0).setCell ⟨b, 1, none⟩ u1).setCell ⟨b, 2, none⟩ u2).setCell ⟨b, 3, none⟩ u3) b t #[u0, u1, u2, u3] := by
  have := (((h.set_ 0 u0).set_ 1 u1).set_ 2 u2).set_ 3 u3
  simpa using this
theorem set4_below {B b : Nat} {w W : World} (h : Below B w W) (hb : B ≤ b) (u0 u1 u2 u3 : Value) : Below B w ((((W.setCell ⟨b, 0, none⟩ u0).setCell ⟨b, 1, none⟩ u1).setCell ⟨b, 2, none⟩ u2).setCell ⟨b, 3, none⟩ u3) :=
  (((h.setCell (p := ⟨b, 0, none⟩) hb u0).setCell (p := ⟨b, 1, none⟩) hb u1).setCell (p := ⟨b, 2, none⟩) hb u2).setCell (p := ⟨b, 3, none⟩) hb u3

/-- A Cpu: eight registers, two Gaussian ones (their bits), an address. -/
structure Cp where
  r : Nat → Int
  z : Nat → Nat × Nat
  pc : Int
def Cp.cells (c : Cp) : List Value := [.int .u32 (c.r 0), .int .u32 (c.r 1), .int .u32 (c.r 2), .int .u32 (c.r 3), .int .u32 (c.r 4), .int .u32 (c.r 5), .int .u32 (c.r 6), .int .u32 (c.r 7), .complex .f64 (c.z 0).1 (c.z 0).2, .complex .f64 (c.z 1).1 (c.z 1).2, .int .u32 c.pc]
def Cp.arr (c : Cp) : Array Value := #[.int .u32 (c.r 0), .int .u32 (c.r 1), .int .u32 (c.r 2), .int .u32 (c.r 3), .int .u32 (c.r 4), .int .u32 (c.r 5), .int .u32 (c.r 6), .int .u32 (c.r 7), .complex .f64 (c.z 0).1 (c.z 0).2, .complex .f64 (c.z 1).1 (c.z 1).2, .int .u32 c.pc]
structure Cp.Ok (c : Cp) : Prop where
  r : ∀ k, 0 ≤ c.r k ∧ c.r k ≤ 4294967295
  p0 : 0 ≤ c.pc
  p1 : c.pc ≤ 4294967295
def Cp.setR (c : Cp) (k : Nat) (v : Int) : Cp := { c with r := fun i => if i = k then v else c.r i }
def Cp.setZ (c : Cp) (k : Nat) (v : Nat × Nat) : Cp := { c with z := fun i => if i = k then v else c.z i }
def Cp.setPc (c : Cp) (v : Int) : Cp := { c with pc := v }
theorem lt8 {k : Nat} (h : k < 8) : k = 0 ∨ k = 1 ∨ k = 2 ∨ k = 3 ∨ k = 4 ∨ k = 5 ∨ k = 6 ∨ k = 7 := by omega
theorem arr_setR (c : Cp) {k : Nat} (hk : k < 8) (v : Int) : c.arr.setIfInBounds k (.int .u32 v) = (c.setR k v).arr := by
  rcases lt8 hk with rfl | rfl | rfl | rfl | rfl | rfl | rfl | rfl <;> rfl
theorem arr_setZ (c : Cp) {k : Nat} (hk : k < 2) (v : Nat × Nat) : c.arr.setIfInBounds (8 + k) (.complex .f64 v.1 v.2) = (c.setZ k v).arr := by
  rcases (show k = 0 ∨ k = 1 by omega) with rfl | rfl <;> rfl
theorem arr_setPc (c : Cp) (v : Int) : c.arr.setIfInBounds 10 (.int .u32 v) = (c.setPc v).arr := rfl
theorem Cp.Ok.setR {c : Cp} (h : c.Ok) (k : Nat) {v : Int} (hv : 0 ≤ v ∧ v ≤ 4294967295) : (c.setR k v).Ok := ⟨fun i => by
  show 0 ≤ (if i = k then v else c.r i) ∧ (if i = k then v else c.r i) ≤ 4294967295
  split
  · exact hv
  · exact h.r i, h.p0, h.p1⟩
theorem Cp.Ok.setZ {c : Cp} (h : c.Ok) (k : Nat) (v : Nat × Nat) : (c.setZ k v).Ok := ⟨h.r, h.p0, h.p1⟩
theorem Cp.Ok.setPc {c : Cp} (h : c.Ok) {v : Int} (hv : 0 ≤ v ∧ v ≤ 4294967295) : (c.setPc v).Ok := ⟨h.r, hv.1, hv.2⟩
abbrev CpAt (w : World) (g : Nat) (c : Cp) : Prop := Blk w g 28 c.arr
theorem cp_reg {w : World} {g : Nat} {c : Cp} (h : CpAt w g c) {k : Nat} (hk : k < 8) : w.cell? ⟨g, k, none⟩ = some (.int .u32 (c.r k)) := by
  rw [h.cell]
  rcases lt8 hk with rfl | rfl | rfl | rfl | rfl | rfl | rfl | rfl <;> rfl
theorem cp_z {w : World} {g : Nat} {c : Cp} (h : CpAt w g c) {k : Nat} (hk : k < 2) : w.cell? ⟨g, 8 + k, none⟩ = some (.complex .f64 (c.z k).1 (c.z k).2) := by
  rw [h.cell]
  rcases (show k = 0 ∨ k = 1 by omega) with rfl | rfl <;> rfl
theorem cp_pc {w : World} {g : Nat} {c : Cp} (h : CpAt w g c) : w.cell? ⟨g, 10, none⟩ = some (.int .u32 c.pc) := h.cell 10
theorem cp_all {w : World} {g : Nat} {c : Cp} (h : CpAt w g c) : w.cell? ⟨g, 0, none⟩ = some (.int .u32 (c.r 0)) ∧ w.cell? ⟨g, 1, none⟩ = some (.int .u32 (c.r 1)) ∧ w.cell? ⟨g, 2, none⟩ = some (.int .u32 (c.r 2)) ∧ w.cell? ⟨g, 3, none⟩ = some (.int .u32 (c.r 3)) ∧ w.cell? ⟨g, 4, none⟩ = some (.int .u32 (c.r 4)) ∧ w.cell? ⟨g, 5, none⟩ = some (.int .u32 (c.r 5)) ∧ w.cell? ⟨g, 6, none⟩ = some (.int .u32 (c.r 6)) ∧ w.cell? ⟨g, 7, none⟩ = some (.int .u32 (c.r 7)) ∧ w.cell? ⟨g, 8, none⟩ = some (.complex .f64 (c.z 0).1 (c.z 0).2) ∧ w.cell? ⟨g, 9, none⟩ = some (.complex .f64 (c.z 1).1 (c.z 1).2) ∧ w.cell? ⟨g, 10, none⟩ = some (.int .u32 c.pc) ∧ g < w.heap.size :=
  ⟨h.cell 0, h.cell 1, h.cell 2, h.cell 3, h.cell 4, h.cell 5, h.cell 6, h.cell 7, h.cell 8, h.cell 9, h.cell 10, h.lt⟩

/-- The instruction at an address; with what it ends, if it is none. -/
def fetchP (c : Cp) (m : List Int) : I.Ins × Int :=
  if c.pc % 4 = 0 then match wordM m c.pc.toNat with
    | none => (I.x0, 2)
    | some v => if I.MayI (I.decI v) then (I.decI v, 0) else (I.x0, 3)
  else (I.x0, 2)
theorem wordM_range {m : List Int} (h : ∀ x ∈ m, 0 ≤ x ∧ x ≤ 255) {a : Nat} {v : Int} (hv : wordM m a = some v) : 0 ≤ v ∧ v < 4294967296 := by
  have hr : ∀ i, 0 ≤ m.getD i 0 ∧ m.getD i 0 ≤ 255 := fun i => by
    rw [List.getD_eq_getElem?_getD]
    cases hx : m[i]? with
    | none => simp
    | some x => exact h x (List.mem_of_getElem? hx)
  unfold wordM at hv
  split at hv
  · injection hv with hv
    have h0 := hr a
    have h1 := hr (a + 1)
    have h2 := hr (a + 2)
    have h3 := hr (a + 3)
    unfold w4 at hv
    omega
  · cases hv

theorem mWord (n g : Nat) (w : World) : (method (n + 1) 31 (.pointer (some ⟨g, 0, none⟩)) "Word").run Tryd.prog w = .ok (20, .pointer (some ⟨g, 0, none⟩)) w := by kernel_rfl
theorem mByte (n g : Nat) (w : World) : (method (n + 1) 31 (.pointer (some ⟨g, 0, none⟩)) "Byte").run Tryd.prog w = .ok (18, .pointer (some ⟨g, 0, none⟩)) w := by kernel_rfl
theorem mSetWord (n g : Nat) (w : World) : (method (n + 1) 31 (.pointer (some ⟨g, 0, none⟩)) "SetWord").run Tryd.prog w = .ok (19, .pointer (some ⟨g, 0, none⟩)) w := by kernel_rfl
theorem mSetByte (n g : Nat) (w : World) : (method (n + 1) 31 (.pointer (some ⟨g, 0, none⟩)) "SetByte").run Tryd.prog w = .ok (21, .pointer (some ⟨g, 0, none⟩)) w := by kernel_rfl
theorem nSetWord (n g : Nat) (w : World) : (nilAhead (n + 1) 31 (.pointer (some ⟨g, 0, none⟩)) "SetWord").run Tryd.prog w = .ok (some false) w := by kernel_rfl
theorem nSetByte (n g : Nat) (w : World) : (nilAhead (n + 1) 31 (.pointer (some ⟨g, 0, none⟩)) "SetByte").run Tryd.prog w = .ok (some false) w := by kernel_rfl

set_option maxRecDepth 100000 in
set_option maxHeartbeats 4000000 in
theorem fetch_any {w : World} (hL : I.Laid w) {g : Nat} {A : Option Addr} {B cap : Nat} {m : List Int} (hM : RamAt w g A B cap m) (c : Cp) (hc : c.Ok) :
    Calls Tryd.prog 29 #[.agg c.arr, .iface 31 (.pointer (some ⟨g, 0, none⟩))] w fun e w' => e = .returned (.tuple #[.agg (fetchP c m).1.cells.toArray, .int .i64 (fetchP c m).2]) ∧ Below w.heap.size w w' := by
  have hb0 := bl_new (bl_new (Below.refl w.heap.size w) (.cells c.arr 28)) (.cells #[.int .i64 0, .int .i64 0, .int .i64 0, .int .i64 0] 38)
  have hp := cp_pc ((Blk.new w 28 c.arr).alloc (.cells #[.int .i64 0, .int .i64 0, .int .i64 0, .int .i64 0] 38))
  have hr := Blk.new (w.alloc (.cells c.arr 28)) 38 #[.int .i64 0, .int .i64 0, .int .i64 0, .int .i64 0]
  rw [World.size_alloc] at hr
  obtain ⟨post, hpost⟩ : ∃ post : Ending → World → Prop, post = fun e w' => e = .returned (.tuple #[.agg (fetchP c m).1.cells.toArray, .int .i64 (fetchP c m).2]) ∧ Below w.heap.size w w' := ⟨_, rfl⟩
  rw [← hpost]
  have HPOST := Lib.hid hpost
  have HB0 := Lib.hid hb0
  have HR0 := Lib.hid hr
  have hlt0 : w.heap.size < ((w.alloc (.cells c.arr 28)).alloc (.cells #[.int .i64 0, .int .i64 0, .int .i64 0, .int .i64 0] 38)).heap.size := by simp; omega
  obtain ⟨pn, hpn⟩ := Int.eq_ofNat_of_zero_le hc.p0
  have hp1 := hc.p1
  have HW := Lib.hid (fun W (hW : Below w.heap.size w W) => word_any (hM.below hW) pn (by omega))
  have HD := Lib.hid (fun W (hW : Below w.heap.size w W) v (hv : I.RangeW v) => I.decode_any (hL.below hW) v hv)
  have HWR := Lib.hid (fun v => wordM_range hM.low (a := pn) (v := v))
  unfold fetchP at HPOST
  rw [hpn] at hp hp1
  rw [hpn, Int.toNat_natCast] at HPOST
  clear hpost hb0 hc hM hL hpn
  obtain ⟨r0, r1, r2, r3, rlt⟩ := ccells hr
  have g0 := hr.frozen 0
  have g1 := hr.frozen 1
  have g2 := hr.frozen 2
  have g3 := hr.frozen 3
  clear hr
  have htm : (pn : Int).tmod 4 = (pn : Int) % 4 := Int.tmod_eq_emod_of_nonneg (by omega)
  by_cases hz : (pn : Int) % 4 = 0
  case neg =>
    have hzb : ((pn : Int) % 4 != 0) = true := by simpa using hz
    rw [if_neg hz] at HPOST
    clear hz
    go_enter Tryd.func29, Tryd.ntmps29
    go_wp2
    rw [HPOST.out]
    exact bodyPost_ret (results_row_tmp Tryd.results29 _ rfl HR0.out Tryd.underlying38 rfl (by kernel_rfl)) rfl ⟨rfl, HB0.out⟩
  case pos =>
    have hzb : ((pn : Int) % 4 != 0) = false := by simpa using hz
    rw [if_pos hz] at HPOST
    clear hz
    have hmw := fun n w => mWord n g w
    have HW0 := Lib.hid (HW.out _ HB0.out)
    have HF := Tryd.func29
    cases hwm : wordM m pn with
    | none =>
      rw [hwm] at HW0 HPOST
      dsimp only at HPOST
      clear HF hwm
      go_enter Tryd.func29, Tryd.ntmps29
      go_wp2_with fail
      refine HW0.out.mono ?_
      rintro e W1 ⟨rfl, hb1⟩
      have HR1 := Lib.hid (HR0.out.below hb1 HR0.out.lt)
      obtain ⟨r0, r1, r2, r3, rlt⟩ := ccells HR1.out
      have g0 := HR1.out.frozen 0
      have g1 := HR1.out.frozen 1
      have g2 := HR1.out.frozen 2
      have g3 := HR1.out.frozen 3
      have HB1 := Lib.hid (bl_step HB0.out hb1)
      clear hp hb1
      go_wp2
      rw [HPOST.out]
      exact bodyPost_ret (results_row_tmp Tryd.results29 _ rfl (set4_blk HR1.out (.int .i64 0) (.int .i64 0) (.int .i64 0) (.int .i64 0)) Tryd.underlying38 rfl (by kernel_rfl)) rfl ⟨rfl, set4_below HB1.out (by omega) _ _ _ _⟩
    | some v =>
      have hv := HWR.out v hwm
      rw [hwm] at HW0 HPOST
      dsimp only at HPOST
      have HDV := Lib.hid (fun W (hW : Below w.heap.size w W) => HD.out W hW v hv)
      clear HF hwm hv
      by_cases hm : I.MayI (I.decI v)
      · rw [if_pos hm] at HPOST
        have e1 := I.decO_yes hm
        have e2 := I.errI_yes hm
        rw [e1, e2] at HDV
        clear hm e1 e2
        generalize I.decI v = xx at *
        obtain ⟨x0, x1, x2, x3⟩ := xx
        have HDV := Lib.hid (fun W (hW : Below w.heap.size w W) => show Calls Tryd.prog 52 #[.int .u32 v] W fun e w' => e = .returned (.tuple #[.agg #[.int .i64 x0, .int .i64 x1, .int .i64 x2, .int .i64 x3], .int .i64 0]) ∧ Below W.heap.size W w' from HDV.out W hW)
        dsimp only at HPOST
        go_enter Tryd.func29, Tryd.ntmps29
        go_wp2_with fail
        refine HW0.out.mono ?_
        rintro e W1 ⟨rfl, hb1⟩
        have HR1 := Lib.hid (HR0.out.below hb1 HR0.out.lt)
        have HB1 := Lib.hid (bl_step HB0.out hb1)
        clear hp hb1 r0 r1 r2 r3 g0 g1 g2 g3 rlt
        go_wp2_with fail
        refine (HDV.out _ HB1.out).mono ?_
        rintro e W2 ⟨rfl, hb2⟩
        have HR2 := Lib.hid (HR1.out.below hb2 HR1.out.lt)
        have HB2 := Lib.hid (bl_step HB1.out hb2)
        have hRW := HR1.out.below hb2 HR1.out.lt
        obtain ⟨r0, r1, r2, r3, rlt⟩ := ccells hRW
        have g0 := hRW.frozen 0
        have g1 := hRW.frozen 1
        have g2 := hRW.frozen 2
        have g3 := hRW.frozen 3
        clear hRW
        clear hb2
        go_wp2
        rw [HPOST.out]
        exact bodyPost_ret (results_row_tmp Tryd.results29 _ rfl ((set4_blk HR2.out (.int .i64 x0) (.int .i64 x1) (.int .i64 x2) (.int .i64 x3)).alloc _) Tryd.underlying38 rfl (by kernel_rfl)) rfl ⟨rfl, bl_new (set4_below HB2.out (by omega) _ _ _ _) _⟩
      · rw [if_neg hm] at HPOST
        have e1 := I.decO_no hm
        have e2 := I.errI_no hm
        rw [e1, e2] at HDV
        clear hm e1 e2
        have HDV := Lib.hid (fun W (hW : Below w.heap.size w W) => show Calls Tryd.prog 52 #[.int .u32 v] W fun e w' => e = .returned (.tuple #[.agg #[.int .i64 0, .int .i64 0, .int .i64 0, .int .i64 0], .int .i64 30]) ∧ Below W.heap.size W w' from HDV.out W hW)
        dsimp only at HPOST
        go_enter Tryd.func29, Tryd.ntmps29
        go_wp2_with fail
        refine HW0.out.mono ?_
        rintro e W1 ⟨rfl, hb1⟩
        have HR1 := Lib.hid (HR0.out.below hb1 HR0.out.lt)
        have HB1 := Lib.hid (bl_step HB0.out hb1)
        clear hp hb1 r0 r1 r2 r3 g0 g1 g2 g3 rlt
        go_wp2_with fail
        refine (HDV.out _ HB1.out).mono ?_
        rintro e W2 ⟨rfl, hb2⟩
        have HR2 := Lib.hid (HR1.out.below hb2 HR1.out.lt)
        have HB2 := Lib.hid (bl_step HB1.out hb2)
        have hRW := HR1.out.below hb2 HR1.out.lt
        obtain ⟨r0, r1, r2, r3, rlt⟩ := ccells hRW
        have g0 := hRW.frozen 0
        have g1 := hRW.frozen 1
        have g2 := hRW.frozen 2
        have g3 := hRW.frozen 3
        clear hRW
        clear hb2
        go_wp2
        rw [HPOST.out]
        exact bodyPost_ret (results_row_tmp Tryd.results29 _ rfl ((set4_blk HR2.out (.int .i64 0) (.int .i64 0) (.int .i64 0) (.int .i64 0)).alloc _) Tryd.underlying38 rfl (by kernel_rfl)) rfl ⟨rfl, bl_new (set4_below HB2.out (by omega) _ _ _ _) _⟩
set_option maxRecDepth 100000 in
set_option maxHeartbeats 4000000 in
theorem fetch_nil {w : World} (c : Cp) :
    Calls Tryd.prog 29 #[.agg c.arr, .nilIface] w fun e w' => e = .returned (.tuple #[.agg I.x0.cells.toArray, .int .i64 2]) ∧ Below w.heap.size w w' := by
  have HB0 := Lib.hid (bl_new (bl_new (Below.refl w.heap.size w) (.cells c.arr 28)) (.cells #[.int .i64 0, .int .i64 0, .int .i64 0, .int .i64 0] 38))
  have hr := Blk.new (w.alloc (.cells c.arr 28)) 38 #[.int .i64 0, .int .i64 0, .int .i64 0, .int .i64 0]
  rw [World.size_alloc] at hr
  have HR0 := Lib.hid hr
  clear hr
  go_enter Tryd.func29, Tryd.ntmps29
  go_wp2
  exact bodyPost_ret (results_row_tmp Tryd.results29 _ rfl HR0.out Tryd.underlying38 rfl (by kernel_rfl)) rfl ⟨rfl, HB0.out⟩
end
end Go.Proofs.YtoglmemmdolbmaaDoor
