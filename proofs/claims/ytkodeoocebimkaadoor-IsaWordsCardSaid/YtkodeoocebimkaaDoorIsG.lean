/-
  The law IsaBack for every input. Condition: the tables lie as the program's text, and the library's, lay them.
-/
import Derived.Test.YtkodeoocebimkaaDoorIsF
namespace Go.Proofs.YtkodeoocebimkaaDoor
open Go.RowKit Go.Shelf
set_option linter.unusedVariables false
set_option linter.unusedSimpArgs false
attribute [local go_sem] Oper.semAt_some

def lineB (x : Ins) : ByteArray := if MayI x then ⟨(lineI x).toArray⟩ else ⟨#[]⟩
theorem lineB_size (x : Ins) : (lineB x).size ≤ 80 := by
  unfold lineB
  split
  · rename_i h
    have := lineI_len h
    have e : (⟨(lineI x).toArray⟩ : ByteArray).size = (lineI x).length := List.size_toArray
    omega
  · exact Nat.zero_le _
theorem line_any {w : World} (hG : Ground w) (x : Ins) : Calls Tryd.prog 16 #[.agg #[.int .i64 x.op, .int .i64 x.a, .int .i64 x.b, .int .i64 x.imm]] w fun e w' => e = .returned (.tuple #[.string (lineB x), .int .i64 (errI x)]) ∧ Below w.heap.size w w' := by
  obtain ⟨op, a, b, m⟩ := x
  by_cases h : MayI ⟨op, a, b, m⟩
  · have h1 := lineI_yes hG op a b m h
    have e : lineB ⟨op, a, b, m⟩ = ⟨(lineI ⟨op, a, b, m⟩).toArray⟩ := if_pos h
    rw [e, errI_yes h]
    exact h1
  · have h1 := lineI_no hG.laid op a b m h
    have e : lineB ⟨op, a, b, m⟩ = ⟨#[]⟩ := if_neg h
    rw [e, errI_no h]
    exact h1
theorem readC_any {w : World} (hG : Ground w) (s : ByteArray) (hs : s.size ≤ 1000000) (x : Ins) (k : Int) (hx : readX s.data.toList = x) (hk : readE s.data.toList = k) : Calls Tryd.prog 18 #[.string s] w fun e w' => e = .returned (.tuple #[.agg #[.int .i64 x.op, .int .i64 x.a, .int .i64 x.b, .int .i64 x.imm], .int .i64 k]) ∧ Below w.heap.size w w' := by
  have h := readI_any hG s hs
  rw [hx, hk] at h
  exact h
theorem decC_any {w : World} (hG : Ground w) (n : Int) (hn : RangeW n) (x : Ins) (k : Int) (hx : decO n = x) (hk : errI (decI n) = k) : Calls Tryd.prog 14 #[.int .u32 n] w fun e w' => e = .returned (.tuple #[.agg #[.int .i64 x.op, .int .i64 x.a, .int .i64 x.b, .int .i64 x.imm], .int .i64 k]) ∧ Below w.heap.size w w' := by
  have h := decode_any hG.laid n hn
  rw [hx, hk] at h
  exact h
theorem encC_any {w : World} (hG : Ground w) (x : Ins) : Calls Tryd.prog 12 #[.agg #[.int .i64 x.op, .int .i64 x.a, .int .i64 x.b, .int .i64 x.imm]] w fun e w' => e = .returned (.tuple #[.int .u32 (encW x), .int .i64 (errI x)]) ∧ Below w.heap.size w w' := encode_any hG.laid x.op x.a x.b x.imm
theorem readX_some {s : List UInt8} {x : Ins} (h : readI s = some x) : readX s = x ∧ readE s = 0 := by
  unfold readX readE
  rw [h]
  exact ⟨rfl, rfl⟩
theorem readX_none {s : List UInt8} (h : readI s = none) : readX s = x0 ∧ readE s = 30 := by
  unfold readX readE
  rw [h]
  exact ⟨rfl, rfl⟩

set_option maxRecDepth 100000 in
set_option maxHeartbeats 4000000 in
theorem backLaw_any {w : World} (hG : Ground w) (xo xa xb xm wv : Int) (hw : RangeW wv) (s : ByteArray) (hs : s.size ≤ maxLen) :
    Calls Tryd.prog 5 #[.agg #[.int .i64 xo, .int .i64 xa, .int .i64 xb, .int .i64 xm], .int .u32 wv, .string s] w fun e w' => e = .returned (.bool true) ∧ Below w.heap.size w w' := by
  unfold maxLen at hs
  have hb0 := (Below.refl w.heap.size w).alloc (Nat.le_refl _) (.cells #[.int .i64 xo, .int .i64 xa, .int .i64 xb, .int .i64 xm] 23)
  have HAL := Lib.hid (alive_any (hG.below hb0))
  by_cases hbig : 80 < s.size
  · have hb1 : (80 : Int) < (s.size : Int) := by omega
    clear hw hG
    go_enter Tryd.func5, Tryd.ntmps5
    go_wp2_with fail
    refine HAL.out.mono ?_
    rintro e W1 ⟨rfl, hb1⟩
    have HB := Lib.hid (bl_step hb0 hb1)
    clear hb0 hb1
    go_wp2
    go_ret
    exact ⟨rfl, HB.out⟩
  · obtain ⟨x, hx⟩ : ∃ x : Ins, x = ⟨xo, xa, xb, xm⟩ := ⟨_, rfl⟩
    have hA := encW_range x
    obtain ⟨A, hAe⟩ : ∃ A, encW x = A := ⟨_, rfl⟩
    rw [hAe] at hA
    obtain ⟨y, hy⟩ : ∃ y, decO A = y := ⟨_, rfl⟩
    obtain ⟨f, hf⟩ : ∃ f, errI (decI A) = f := ⟨_, rfl⟩
    obtain ⟨l, hl⟩ : ∃ l, lineB x = l := ⟨_, rfl⟩
    have hls : l.size ≤ 80 := by rw [← hl]; exact lineB_size x
    obtain ⟨z, hz⟩ : ∃ z, readX l.data.toList = z := ⟨_, rfl⟩
    obtain ⟨h, hh⟩ : ∃ h, readE l.data.toList = h := ⟨_, rfl⟩
    obtain ⟨p, hp⟩ : ∃ p, decO wv = p := ⟨_, rfl⟩
    obtain ⟨i, hi⟩ : ∃ i, errI (decI wv) = i := ⟨_, rfl⟩
    obtain ⟨q, hq⟩ : ∃ q, readX s.data.toList = q := ⟨_, rfl⟩
    obtain ⟨k, hk⟩ : ∃ k, readE s.data.toList = k := ⟨_, rfl⟩
    refine back_walk xo xa xb xm wv A (errI x) y.op y.a y.b y.imm f z.op z.a z.b z.imm h p.op p.a p.b p.imm i (encW p) (errI p) q.op q.a q.b q.imm k (errI q) s l (lineB q) (by omega) HAL
      (Lib.hid fun W hW => by have := encC_any (hG.below hW) x; rw [hAe, hx] at this; rw [hx]; exact this)
      (Lib.hid fun W hW => decC_any (hG.below hW) A hA y f hy hf)
      (Lib.hid fun W hW => by have := line_any (hG.below hW) x; rw [hl] at this; rw [hx] at this ⊢; exact this)
      (Lib.hid fun W hW => readC_any (hG.below hW) l (by omega) z h hz hh)
      (Lib.hid fun W hW => decC_any (hG.below hW) wv hw p i hp hi)
      (Lib.hid fun W hW => encC_any (hG.below hW) p)
      (Lib.hid fun W hW => readC_any (hG.below hW) s (by omega) q k hq hk)
      (Lib.hid fun W hW => line_any (hG.below hW) q) ?_ ?_ ?_
    · by_cases hm : MayI x
      · refine .inr ⟨errI_yes hm, ?_⟩
        have e1 : encW x = encI x := if_pos hm
        have e2 : decI A = x := by rw [← hAe, e1, dec_enc hm]
        have e3 : y = x := by rw [← hy]; unfold decO; rw [e2, if_pos hm]
        have e4 : l = ⟨(lineI x).toArray⟩ := by rw [← hl]; exact if_pos hm
        have e5 : l.data.toList = lineI x := by rw [e4]
        obtain ⟨r1, r2⟩ := readX_some (read_line hm)
        have e6 : z = x := by rw [← hz, e5, r1]
        refine ⟨by rw [← hf, e2]; exact errI_yes hm, by rw [← hh, e5, r2], ?_, ?_⟩
        · rw [e3, hx]; exact ⟨rfl, rfl, rfl, rfl⟩
        · rw [e6, hx]; exact ⟨rfl, rfl, rfl, rfl⟩
      · exact .inl (errI_no hm)
    · by_cases hm : MayI (decI wv)
      · have e1 : p = decI wv := by rw [← hp]; exact decO_yes hm
        refine .inr ⟨by rw [← hi]; exact errI_yes hm, by rw [e1]; exact errI_yes hm, ?_⟩
        rw [e1]
        unfold encW
        rw [if_pos hm, enc_dec hw]
      · exact .inl (by rw [← hi]; exact errI_no hm)
    · cases hr : readI s.data.toList with
      | none => exact .inl (by rw [← hk]; exact (readX_none hr).2)
      | some v =>
        obtain ⟨r1, r2⟩ := readX_some hr
        obtain ⟨m1, m2⟩ := read_some hr
        have e1 : q = v := by rw [← hq]; exact r1
        refine .inr ⟨by rw [← hk]; exact r2, by rw [e1]; exact errI_yes m1, ?_⟩
        rw [e1]
        unfold lineB
        rw [if_pos m1, m2]
end Go.Proofs.YtkodeoocebimkaaDoor
