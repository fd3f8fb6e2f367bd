/-
  isa.Assemble for a caller; the chapter's first examples hold. Condition: the tables lie as the program's text, and the library's, lay them.
-/
import Derived.Test.YtkodeoocebimkaaDoorIsD
namespace Go.Proofs.YtkodeoocebimkaaDoor
open Go.RowKit Go.Shelf
set_option linter.unusedVariables false
set_option linter.unusedSimpArgs false
attribute [local go_sem] Oper.semAt_some

/-- Words that lie in memory. -/
def WordsAt (W : World) (A : Option Addr) (ws : List Int) : Prop := RowsAt W A 1 (ws.map fun x => [Value.int .u32 x])
theorem WordsAt.below {W W' : World} {A : Option Addr} {ws : List Int} (h : WordsAt W A ws) (hb : Below W.heap.size W W') : WordsAt W' A ws := RowsAt.below h hb
theorem wordsAt_cell {W : World} {A : Option Addr} {ws : List Int} (h : WordsAt W A ws) {k : Nat} {x : Int} (hk : ws[k]? = some x) : ∃ g o, A = some ⟨g, o, none⟩ ∧ g < W.heap.size ∧ W.cell? ⟨g, o + k, none⟩ = some (.int .u32 x) := by
  obtain ⟨g, o, hA, hl, hc⟩ := h k [.int .u32 x] (by rw [List.getElem?_map, hk]; rfl)
  have := hc 0 _ rfl
  simp only [Nat.mul_one, Nat.add_zero] at this
  exact ⟨g, o, hA, hl, this⟩
theorem flat_words : ∀ ws : List Int, (ws.map fun x => [Value.int .u32 x]).flatten = wVals ws
  | [] => rfl
  | x :: r => by
    have ih := flat_words r
    rw [List.map_cons, List.flatten_cons, ih]
    rfl
theorem words_own {W : World} {base : Nat} {v : Value} {ws : List Int} (h : W.ownsRow base 24 1 v ws.length (wVals ws)) : ∃ A c, v = .slice A ws.length c ∧ WordsAt W A ws ∧ ws.length ≤ c := by
  have h2 : W.ownsRow base 24 1 v (ws.map fun x => [Value.int .u32 x]).length (ws.map fun x => [Value.int .u32 x]).flatten := by
    rw [List.length_map, flat_words]
    exact h
  obtain ⟨A, c, e, hr, _⟩ := rows_own (fun r hr => by
    obtain ⟨j, _, rfl⟩ := List.mem_map.1 hr
    rfl) h2
  refine ⟨A, c, by rw [e, List.length_map], hr, ?_⟩
  rcases h.2 with ⟨e2, h0⟩ | ⟨g, cap, cur, e2, _, _, hn, _⟩
  · rw [e2] at e
    injection e with _ e3 e4
    omega
  · rw [e2] at e
    injection e with _ e3 e4
    omega
theorem asm_any {w : World} (hG : Ground w) (s : ByteArray) (hs : s.size ≤ 1000000) {ws : List Int} {n er : Int} (ha : asmP (toL s) = (ws, n, er)) :
    Calls Tryd.prog 23 #[.string s] w fun e w' => ∃ A c, e = .returned (.tuple #[.slice A ws.length c, .int .i64 n, .int .i64 er]) ∧ WordsAt w' A ws ∧ ws.length ≤ c ∧ Below w.heap.size w w' := by
  refine (callsIn_wide.1 (assemble_in 12 (by omega) hG s hs)).mono fun e w' h => ?_
  obtain ⟨v, ws', n', er', h1, rfl, h2, h3⟩ := h
  rw [ha] at h1
  simp only [Prod.mk.injEq] at h1
  obtain ⟨rfl, rfl, rfl⟩ := h1
  obtain ⟨A, c, rfl, h4, h5⟩ := words_own h2
  exact ⟨A, c, rfl, h4, h5, h3⟩
theorem dec_at {w : World} (hG : Ground w) (n : Int) (x : Ins) (hn : RangeW n) (hd : decI n = x) (hm : MayI x) :
    Calls Tryd.prog 14 #[.int .u32 n] w fun e w' => e = .returned (.tuple #[.agg #[.int .i64 x.op, .int .i64 x.a, .int .i64 x.b, .int .i64 x.imm], .int .i64 0]) ∧ Below w.heap.size w w' := by
  have h := decode_any hG.laid n hn
  unfold decO at h
  rw [hd, if_pos hm, errI_yes hm] at h
  exact h
theorem enc_at {w : World} (hG : Ground w) (op a b m r : Int) (hm : MayI ⟨op, a, b, m⟩) (hr : encI ⟨op, a, b, m⟩ = r) :
    Calls Tryd.prog 12 #[.agg #[.int .i64 op, .int .i64 a, .int .i64 b, .int .i64 m]] w fun e w' => e = .returned (.tuple #[.int .u32 r, .int .i64 0]) ∧ Below w.heap.size w w' := by
  have h := encode_any hG.laid op a b m
  have e : encW ⟨op, a, b, m⟩ = r := by unfold encW; rw [if_pos hm, hr]
  rw [e, errI_yes hm] at h
  exact h
def aliveS : ByteArray := ⟨#[97, 58, 10, 108, 105, 32, 49, 32, 53, 10, 106, 110, 122, 32, 49, 32, 97, 10, 106, 109, 112, 32, 98, 10, 98, 58, 10, 115, 121, 115, 10]⟩

set_option maxRecDepth 100000 in
set_option maxHeartbeats 4000000 in
theorem alive_any {w : World} (hG : Ground w) : Calls Tryd.prog 22 #[] w fun e w' => e = .returned (.bool true) ∧ Below w.heap.size w w' := by
  have HE := Lib.hid (enc_at hG 1 1 0 (-1) 17891327 (by decide +kernel) (by decide +kernel))
  have HD := Lib.hid (fun W (hW : Below w.heap.size w W) => dec_at (hG.below hW) 402653184 ⟨24, 0, 0, 0⟩ (by unfold RangeW; decide) (by decide +kernel) (by decide +kernel))
  have HA := Lib.hid (fun W (hW : Below w.heap.size w W) => show Calls Tryd.prog 23 #[.string ⟨#[97, 58, 10, 108, 105, 32, 49, 32, 53, 10, 106, 110, 122, 32, 49, 32, 97, 10, 106, 109, 112, 32, 98, 10, 98, 58, 10, 115, 121, 115, 10]⟩] W fun e w' => ∃ A c, e = .returned (.tuple #[.slice A 4 c, .int .i64 0, .int .i64 0]) ∧ WordsAt w' A [17825797, 353435646, 318767104, 402653184] ∧ 4 ≤ c ∧ Below W.heap.size W w' from
    asm_any (hG.below hW) aliveS (by decide) asm_first)
  have HD1 := Lib.hid (fun W (hW : Below w.heap.size w W) => dec_at (hG.below hW) 353435646 ⟨21, 1, 0, -2⟩ (by unfold RangeW; decide) (by decide +kernel) (by decide +kernel))
  have HD2 := Lib.hid (fun W (hW : Below w.heap.size w W) => dec_at (hG.below hW) 318767104 ⟨19, 0, 0, 0⟩ (by unfold RangeW; decide) (by decide +kernel) (by decide +kernel))
  clear hG
  simp only at HD HD1 HD2
  go_enter Tryd.func22, Tryd.ntmps22
  go_wp2_with fail
  refine HE.out.mono ?_
  rintro e W1 ⟨rfl, hb1⟩
  go_wp2_with fail
  refine (HD.out _ hb1).mono ?_
  rintro e W2 ⟨rfl, hb2⟩
  have hB2 := bl_new (bl_step hb1 hb2) (.cells #[.int .i64 24, .int .i64 0, .int .i64 0, .int .i64 0] 23)
  have hx2 := Blk.new W2 23 #[.int .i64 24, .int .i64 0, .int .i64 0, .int .i64 0]
  clear hb1 hb2
  go_wp2_with fail
  refine (HA.out _ hB2).mono ?_
  rintro e W3 ⟨A, c, rfl, hA, hc, hb3⟩
  have hB3 := bl_step hB2 hb3
  have hx3 := hx2.below hb3 hx2.lt
  obtain ⟨g, o, rfl, hgl, hc1⟩ := wordsAt_cell (k := 1) hA rfl
  have hc4 : (4 : Int) ≤ (c : Int) := by omega
  have HX3 := Lib.hid hx3
  have HA3 := Lib.hid hA
  have HB3 := Lib.hid hB3
  clear hx2 hb3 hB2 hB3 hx3 hA
  go_wp2_with fail
  refine (HD1.out _ HB3.out).mono ?_
  rintro e W4 ⟨rfl, hb4⟩
  have hA4 := (HA3.out.below hb4).below ((Below.refl W4.heap.size W4).alloc (Nat.le_refl _) (.cells #[.int .i64 21, .int .i64 1, .int .i64 0, .int .i64 (-2)] 23))
  have hB4 := bl_new (bl_step HB3.out hb4) (.cells #[.int .i64 21, .int .i64 1, .int .i64 0, .int .i64 (-2)] 23)
  have hx4 := (HX3.out.below hb4 HX3.out.lt).alloc (.cells #[.int .i64 21, .int .i64 1, .int .i64 0, .int .i64 (-2)] 23)
  have hy4 := Blk.new W4 23 #[.int .i64 21, .int .i64 1, .int .i64 0, .int .i64 (-2)]
  obtain ⟨g', o', e', hgl', hc2⟩ := wordsAt_cell (k := 2) hA4 rfl
  injection e' with e'
  injection e' with e1 e2 _
  subst e1 e2
  have HX4 := Lib.hid hx4
  have HY4 := Lib.hid hy4
  have HB4 := Lib.hid hB4
  clear hc1 hgl hb4 hA4 hB4 hx4 hy4 HX3 HA3 HB3
  go_wp2_with fail
  refine (HD2.out _ HB4.out).mono ?_
  rintro e W5 ⟨rfl, hb5⟩
  have hx5 := (HX4.out.below hb5 HX4.out.lt).alloc (.cells #[.int .i64 19, .int .i64 0, .int .i64 0, .int .i64 0] 23)
  have hy5 := (HY4.out.below hb5 HY4.out.lt).alloc (.cells #[.int .i64 19, .int .i64 0, .int .i64 0, .int .i64 0] 23)
  obtain ⟨x0, x1, x2, x3, xlt⟩ := ccells hx5
  obtain ⟨y0, y1, y2, y3, ylt⟩ := ccells hy5
  have HB5 := Lib.hid (bl_new (bl_step HB4.out hb5) (.cells #[.int .i64 19, .int .i64 0, .int .i64 0, .int .i64 0] 23))
  clear hx5 hy5 hb5 hc2
  go_wp2
  go_ret
  exact ⟨by first | rfl | simp, HB5.out⟩
end Go.Proofs.YtkodeoocebimkaaDoor
