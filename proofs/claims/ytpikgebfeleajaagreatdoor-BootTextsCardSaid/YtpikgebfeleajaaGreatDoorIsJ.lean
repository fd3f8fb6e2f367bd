/-
  isa.List: words' lines. Condition: the tables lie as the program's text, and the library's, lay them.
-/
import Derived.Test.YtpikgebfeleajaaGreatDoorIsE
import Derived.Test.YtpikgebfeleajaaGreatDoorIsPa
import Derived.Test.YtpikgebfeleajaaGreatDoorStr2
namespace Go.Proofs.YtpikgebfeleajaaGreatDoor.I
section
open Go.RowKit Go.Shelf
set_option linter.unusedVariables false
set_option linter.unusedSimpArgs false
attribute [local go_sem] Oper.semAt_some

theorem eqI (x y : Ins) (w : World) : (Op.equalIn 10000 86 (.agg #[.int .i64 x.op, .int .i64 x.a, .int .i64 x.b, .int .i64 x.imm]) (.agg #[.int .i64 y.op, .int .i64 y.a, .int .i64 y.b, .int .i64 y.imm])).run Tryz.prog w = .ok (decide (x = y)) w := by
  rw [show (10000 : Nat) = 9999 + 1 from rfl, run_equalIn_agg w 9999 86 _ _ (by kernel_rfl) Tryz.stoodInHeld86]
  have a3 := Tryz.isAgg3
  simp only [Program.fieldsOf, Tryz.underlying86]
  obtain ⟨n, a, b, c⟩ := x
  obtain ⟨n', a', b', c'⟩ := y
  go_simp
  by_cases h1 : n = n'
  case neg => simp [h1]
  by_cases h2 : a = a'
  case neg => simp [h1, h2]
  by_cases h3 : b = b'
  case neg => simp [h1, h2, h3]
  by_cases h4 : c = c' <;> simp [h1, h2, h3, h4]
theorem eqI_same (x : Ins) (w : World) : (Op.equalIn 10000 86 (.agg #[.int .i64 x.op, .int .i64 x.a, .int .i64 x.b, .int .i64 x.imm]) (.agg #[.int .i64 x.op, .int .i64 x.a, .int .i64 x.b, .int .i64 x.imm])).run Tryz.prog w = .ok (.true) w := by
  have h := eqI x x w
  rw [decide_eq_true rfl] at h
  exact h

end
end Go.Proofs.YtpikgebfeleajaaGreatDoor.I
namespace Go.Proofs.YtpikgebfeleajaaGreatDoor.I
section
open Go.RowKit Go.Shelf
set_option linter.unusedVariables false
set_option linter.unusedSimpArgs false
attribute [local go_sem] Oper.semAt_some

def lineB (x : Ins) : ByteArray := if MayI x then ⟨(lineI x).toArray⟩ else ⟨#[]⟩
theorem lineB_size (x : Ins) : (lineB x).size ≤ 80 := by
  unfold lineB
  split
  · rename_i h
    have := lineI_len h
    have e : (⟨(lineI x).toArray⟩ : ByteArray).size = (lineI x).length := List.size_toArray
    omega
  · exact Nat.zero_le _
theorem line_any {w : World} (hG : Ground w) (x : Ins) : Calls Tryz.prog 45 #[.agg #[.int .i64 x.op, .int .i64 x.a, .int .i64 x.b, .int .i64 x.imm]] w fun e w' => e = .returned (.tuple #[.string (lineB x), .int .i64 (errI x)]) ∧ Below w.heap.size w w' := by
  obtain ⟨op, a, b, m⟩ := x
  by_cases h : MayI ⟨op, a, b, m⟩
  · have h1 := lineI_yes hG op a b m h
    have e : lineB ⟨op, a, b, m⟩ = ⟨(lineI ⟨op, a, b, m⟩).toArray⟩ := if_pos h
    rw [e, errI_yes h]
    exact h1
  · have h1 := lineI_no hG.laid op a b m h
    have e : lineB ⟨op, a, b, m⟩ = ⟨#[]⟩ := if_neg h
    rw [e, errI_no h]
    exact h1
theorem decC_any {w : World} (hG : Ground w) (n : Int) (hn : RangeW n) (x : Ins) (k : Int) (hx : decO n = x) (hk : errI (decI n) = k) : Calls Tryz.prog 44 #[.int .u32 n] w fun e w' => e = .returned (.tuple #[.agg #[.int .i64 x.op, .int .i64 x.a, .int .i64 x.b, .int .i64 x.imm], .int .i64 k]) ∧ Below w.heap.size w w' := by
  have h := decode_any hG.laid n hn
  rw [hx, hk] at h
  exact h
theorem encC_any {w : World} (hG : Ground w) (x : Ins) : Calls Tryz.prog 54 #[.agg #[.int .i64 x.op, .int .i64 x.a, .int .i64 x.b, .int .i64 x.imm]] w fun e w' => e = .returned (.tuple #[.int .u32 (encW x), .int .i64 (errI x)]) ∧ Below w.heap.size w w' := encode_any hG.laid x.op x.a x.b x.imm
theorem readX_some {s : List UInt8} {x : Ins} (h : readI s = some x) : readX s = x ∧ readE s = 0 := by
  unfold readX readE
  rw [h]
  exact ⟨rfl, rfl⟩
theorem readX_none {s : List UInt8} (h : readI s = none) : readX s = x0 ∧ readE s = 30 := by
  unfold readX readE
  rw [h]
  exact ⟨rfl, rfl⟩

end
end Go.Proofs.YtpikgebfeleajaaGreatDoor.I
namespace Go.Proofs.YtpikgebfeleajaaGreatDoor.I
section
open Go.RowKit Go.Shelf
set_option linter.unusedVariables false
set_option linter.unusedSimpArgs false
attribute [local go_sem] Oper.semAt_some

theorem lineW_len {n : Int} (h : RangeW n) : (lineW n).length ≤ 80 := by
  unfold lineW
  unfold RangeW at h
  split
  · rename_i hm
    exact lineI_len hm
  · have := dec_len (u := n.toNat) (by omega)
    rw [List.length_append]
    have e : wordP.length = 5 := rfl
    omega
theorem list_len : ∀ (ws : List Int), (∀ x ∈ ws, RangeW x) → (listP ws).length ≤ ws.length * 81
  | [], _ => Nat.le_refl _
  | x :: r, h => by
    have h1 := lineW_len (h x (List.mem_cons_self ..))
    have h2 := list_len r (fun y hy => h y (List.mem_cons_of_mem _ hy))
    unfold listP at h2 ⊢
    rw [List.flatMap_cons, List.length_append, List.length_append, List.length_cons, List.length_cons, List.length_nil]
    omega
theorem list_take {ws : List Int} {k : Nat} {x : Int} (hk : ws[k]? = some x) : listP (ws.take (k + 1)) = listP (ws.take k) ++ (lineW x ++ [10]) := by
  unfold listP
  rw [List.take_add_one, hk, List.flatMap_append]
  simp

set_option maxRecDepth 100000 in
set_option maxHeartbeats 4000000 in
theorem list_any {w : World} (hG : Ground w) (A : Option Addr) (ca : Nat) (ws : List Int) (hl : ws.length ≤ 1000000) (hA : WordsAt w A ws) (hr : ∀ x ∈ ws, RangeW x) :
    Calls Tryz.prog 22 #[.slice A ws.length ca] w fun e w' => e = .returned (strV (listP ws)) ∧ Below w.heap.size w w' := by
  have HA := Lib.hid hA
  have HG := Lib.hid hG
  have HR := Lib.hid hr
  have HTK := Lib.hid (fun k => show (listP (ws.take k)).length ≤ 81000000 from by
    have h1 := list_len (ws.take k) (fun y hy => hr y (List.mem_of_mem_take hy))
    have h2 : (ws.take k).length ≤ ws.length := by rw [List.length_take]; omega
    omega)
  have hIB := IsB.new w
  have hB2 := (Below.refl w.heap.size w).alloc (Nat.le_refl _) (.cells #[.pointer none, .slice none 0 0] 74)
  clear hA hr hG
  go_enter Tryz.func22, Tryz.ntmps22
  go_wp2_with fail
  generalize hW2 : w.alloc (.cells #[.pointer none, .slice none 0 0] 74) = W2 at *
  clear hW2
  go_loopw [11] (fun i wr => ∃ k : Nat, i = .int .i64 (k : Int) ∧ k ≤ ws.length ∧ IsB wr w.heap.size w.heap.size (listP (ws.take k)) ∧ Below w.heap.size w wr) (fun i _ => ws.length - (intOf i).toNat)
  case atStart => exact ⟨0, rfl, Nat.zero_le _, hIB, hB2⟩
  case round =>
    obtain ⟨k, rfl, hk, hI, hB⟩ := hrel
    clear hIB hB2
    have hs1 := hB.size
    have HTK0 := HTK.out k
    by_cases hkl : k < ws.length
    · have hka : (k : Int) < (ws.length : Int) := by omega
      have hxe : ws[k]? = some ws[k] := List.getElem?_eq_getElem hkl
      have hmem : ws[k] ∈ ws := List.getElem_mem hkl
      obtain ⟨g, o, rfl, hgl, hc⟩ := wordsAt_cell (HA.out.below hB) hxe
      have hxr := HR.out _ hmem
      have HLT := Lib.hid (list_take hxe)
      have hll := lineW_len hxr
      generalize ws[k] = x at *
      obtain ⟨u, rfl⟩ : ∃ n : Nat, x = n := ⟨x.toNat, by have := hxr.1; omega⟩
      have hur : u < 4294967296 := by have := hxr.2; omega
      obtain ⟨sl, hsl⟩ : ∃ sl : ByteArray, sl = ⟨(lineW (u : Int)).toArray⟩ := ⟨_, rfl⟩
      have hsz : sl.size ≤ 80 := by rw [hsl]; show (lineW _).toArray.size ≤ _; simpa using hll
      obtain ⟨sd, hsd⟩ : ∃ sd : ByteArray, sd = ⟨(Lib.decDigits u).toArray⟩ := ⟨_, rfl⟩
      have hdz : sd.size ≤ 20 := by rw [hsd]; show (Lib.decDigits u).toArray.size ≤ _; simpa using dec_len (u := u) (by omega)
      have HF := Lib.hid (fun W (hW : Below w.heap.size w W) => show Calls Tryz.prog 43 #[.int .u64 (u : Int), .int .i64 10] W fun e w' => e = .returned (.string sd) ∧ Below W.heap.size W w' from by
        rw [hsd]
        exact formatUint_any (HG.out.below hW).pow u (by omega))
      obtain ⟨y, hy⟩ : ∃ y, decO (u : Int) = y := ⟨_, rfl⟩
      obtain ⟨er, her⟩ : ∃ er, errI (decI (u : Int)) = er := ⟨_, rfl⟩
      have HD := Lib.hid (fun W (hW : Below w.heap.size w W) => decC_any (HG.out.below hW) (u : Int) hxr y er hy her)
      have HL := Lib.hid (fun W (hW : Below w.heap.size w W) => line_any (HG.out.below hW) y)
      have hpz : (⟨#[119, 111, 114, 100, 32]⟩ ++ sd : ByteArray).size = 5 + sd.size := by rw [ByteArray.size_append]; rfl
      have hcase : (er = 0 ∧ lineB y = sl ∧ errI y = 0) ∨ (er = 30 ∧ (⟨#[119, 111, 114, 100, 32]⟩ ++ sd : ByteArray) = sl) := by
        by_cases hm : MayI (decI (u : Int))
        · have e1 : y = decI (u : Int) := by rw [← hy]; exact decO_yes hm
          refine .inl ⟨by rw [← her]; exact errI_yes hm, ?_, by rw [e1]; exact errI_yes hm⟩
          rw [e1, hsl]
          unfold lineB lineW
          rw [if_pos hm, if_pos hm]
        · refine .inr ⟨by rw [← her]; exact errI_no hm, ?_⟩
          refine bytes_eq ?_
          rw [ByteArray.data_append, hsl, hsd]
          unfold lineW
          rw [if_neg hm]
          simp [wordP]
      obtain ⟨yo, ya, yb, ym⟩ := y
      have HI := Lib.hid hI
      have HSL := Lib.hid hsl
      have HCASE := Lib.hid hcase
      clear hxe hmem hxr hsl hsd hI hll hy her hcase
      go_wp2_with fail
      refine (HF.out _ hB).mono ?_
      rintro e w2 ⟨rfl, hb2⟩
      have hB2 := bl_step hB hb2
      have HI2 := Lib.hid (HI.out.below hb2)
      clear hb2
      go_wp2_with fail
      refine (HD.out _ hB2).mono ?_
      rintro e w3 ⟨rfl, hb3⟩
      have hB3 := bl_new (bl_step hB2 hb3) (.cells #[.int .i64 yo, .int .i64 ya, .int .i64 yb, .int .i64 ym] 86)
      have HI3 := Lib.hid ((HI2.out.below hb3).below ((Below.refl w3.heap.size w3).alloc (Nat.le_refl _) (.cells #[.int .i64 yo, .int .i64 ya, .int .i64 yb, .int .i64 ym] 86)))
      have hX3 := Blk.new w3 86 #[.int .i64 yo, .int .i64 ya, .int .i64 yb, .int .i64 ym]
      clear hb3 hB2 HI2
      have happ : (sl ++ ⟨#[10]⟩ : ByteArray).data.toList = sl.data.toList ++ [10] := by rw [ByteArray.data_append]; simp
      have hsap : (sl ++ ⟨#[10]⟩ : ByteArray).size = sl.size + 1 := by rw [ByteArray.size_append]; rfl
      have HAP := Lib.hid (⟨happ, hsap⟩ : (sl ++ ⟨#[10]⟩ : ByteArray).data.toList = sl.data.toList ++ [10] ∧ (sl ++ ⟨#[10]⟩ : ByteArray).size = sl.size + 1)
      clear happ hsap
      rcases HCASE.out with ⟨rfl, hlb, hle⟩ | ⟨rfl, hlb⟩
      · rw [hlb, hle] at HL
        obtain ⟨x0, x1, x2, x3, x4⟩ := ccells hX3
        have hb5 : (sl.size : Int) ≤ 80 := by omega
        clear hlb hle hX3
        go_wp2_with fail
        refine (HL.out _ hB3).mono ?_
        rintro e w4 ⟨rfl, hb4⟩
        have hB4 := bl_step hB3 hb4
        have HI4 := Lib.hid (HI3.out.below hb4)
        have hs4 := hB4.size
        clear hb4 hB3 x0 x1 x2 x3 x4
        go_wp2_with fail
        refine (writeString_any _ _ _ _ HI4.out (by rw [HAP.out.2]; omega) hs4).mono ?_
        rintro e w5 ⟨rfl, hI5, hb5, _⟩
        rw [HAP.out.1] at hI5
        have HI5 := Lib.hid hI5
        have HB5 := Lib.hid (hB4.trans hb5)
        clear hI5 hb5
        go_wp2
        go_roundw
        case rel => exact ⟨k + 1, by go_num, by omega, by
          rw [HLT.out]
          have h := HI5.out
          rw [HSL.out] at h
          exact h, HB5.out⟩
        case measure => simp [intOf]; omega
      · have hs4 := hB3.size
        clear hX3
        go_wp2_with fail
        clear hlb
        refine (writeString_any _ _ _ _ HI3.out (by rw [HAP.out.2]; omega) hs4).mono ?_
        rintro e w5 ⟨rfl, hI5, hb5, _⟩
        rw [HAP.out.1] at hI5
        have HI5 := Lib.hid hI5
        have HB5 := Lib.hid (hB3.trans hb5)
        clear hI5 hb5
        go_wp2
        go_roundw
        case rel => exact ⟨k + 1, by go_num, by omega, by
          rw [HLT.out]
          have h := HI5.out
          rw [HSL.out] at h
          exact h, HB5.out⟩
        case measure => simp [intOf]; omega
    · have hkk : k = ws.length := by omega
      subst hkk
      rw [List.take_length] at hI
      have HS := Lib.hid (bstring_any _ _ _ hI hs1)
      have HBZ := Lib.hid hB
      clear hI
      go_wp2_with fail
      refine HS.out.mono ?_
      rintro e w5 ⟨rfl, hb5⟩
      have HB5 := Lib.hid (hB.trans hb5)
      clear hb5
      go_wp2
      go_ret
      exact ⟨rfl, HB5.out⟩
end
end Go.Proofs.YtpikgebfeleajaaGreatDoor.I
