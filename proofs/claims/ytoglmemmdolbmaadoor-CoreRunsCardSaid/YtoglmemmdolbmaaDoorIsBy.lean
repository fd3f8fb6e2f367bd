/-
  The bytes of words (isa.Bytes). No condition.
-/
import Derived.Test.YtoglmemmdolbmaaDoorIsD
import Derived.Laws.BitsAllLaws
import Derived.Test.YtoglmemmdolbmaaDoorRowMem
import Derived.Test.YtoglmemmdolbmaaDoorIter
namespace Go.Proofs.YtoglmemmdolbmaaDoor.I
section
open Go.RowKit Go.Shelf
set_option linter.unusedVariables false
set_option linter.unusedSimpArgs false
attribute [local go_sem] Oper.semAt_some

/-- Words that lie in memory. -/
def WordsAt (W : World) (A : Option Addr) (ws : List Int) : Prop := RowsAt W A 1 (ws.map fun x => [Value.int .u32 x])
theorem WordsAt.below {W W' : World} {A : Option Addr} {ws : List Int} (h : WordsAt W A ws) (hb : Below W.heap.size W W') : WordsAt W' A ws := RowsAt.below h hb
theorem wordsAt_cell {W : World} {A : Option Addr} {ws : List Int} (h : WordsAt W A ws) {k : Nat} {x : Int} (hk : ws[k]? = some x) : ∃ g o, A = some ⟨g, o, none⟩ ∧ g < W.heap.size ∧ W.cell? ⟨g, o + k, none⟩ = some (.int .u32 x) := by
  obtain ⟨g, o, hA, hl, hc⟩ := h k [.int .u32 x] (by rw [List.getElem?_map, hk]; rfl)
  have := hc 0 _ rfl
  simp only [Nat.mul_one, Nat.add_zero] at this
  exact ⟨g, o, hA, hl, this⟩
theorem flat_words : ∀ ws : List Int, (ws.map fun x => [Value.int .u32 x]).flatten = wVals ws
  | [] => rfl
  | x :: r => by
    have ih := flat_words r
    rw [List.map_cons, List.flatten_cons, ih]
    rfl
theorem words_own {W : World} {base : Nat} {v : Value} {ws : List Int} (h : W.ownsRow base 22 1 v ws.length (wVals ws)) : ∃ A c, v = .slice A ws.length c ∧ WordsAt W A ws ∧ ws.length ≤ c := by
  have h2 : W.ownsRow base 22 1 v (ws.map fun x => [Value.int .u32 x]).length (ws.map fun x => [Value.int .u32 x]).flatten := by
    rw [List.length_map, flat_words]
    exact h
  obtain ⟨A, c, e, hr, _⟩ := rows_own (fun r hr => by
    obtain ⟨j, _, rfl⟩ := List.mem_map.1 hr
    rfl) h2
  refine ⟨A, c, by rw [e, List.length_map], hr, ?_⟩
  rcases h.2 with ⟨e2, h0⟩ | ⟨g, cap, cur, e2, _, _, hn, _⟩
  · rw [e2] at e
    injection e with _ e3 e4
    omega
  · rw [e2] at e
    injection e with _ e3 e4
    omega
theorem asm_any {w : World} (hG : Ground w) (s : ByteArray) (hs : s.size ≤ 1000000) {ws : List Int} {n er : Int} (ha : asmP (toL s) = (ws, n, er)) :
    Calls Tryd.prog 24 #[.string s] w fun e w' => ∃ A c, e = .returned (.tuple #[.slice A ws.length c, .int .i64 n, .int .i64 er]) ∧ WordsAt w' A ws ∧ ws.length ≤ c ∧ Below w.heap.size w w' := by
  refine (callsIn_wide.1 (assemble_in 12 (by omega) hG s hs)).mono fun e w' h => ?_
  obtain ⟨v, ws', n', er', h1, rfl, h2, h3⟩ := h
  rw [ha] at h1
  simp only [Prod.mk.injEq] at h1
  obtain ⟨rfl, rfl, rfl⟩ := h1
  obtain ⟨A, c, rfl, h4, h5⟩ := words_own h2
  exact ⟨A, c, rfl, h4, h5, h3⟩
theorem dec_at {w : World} (hG : Ground w) (n : Int) (x : Ins) (hn : RangeW n) (hd : decI n = x) (hm : MayI x) :
    Calls Tryd.prog 52 #[.int .u32 n] w fun e w' => e = .returned (.tuple #[.agg #[.int .i64 x.op, .int .i64 x.a, .int .i64 x.b, .int .i64 x.imm], .int .i64 0]) ∧ Below w.heap.size w w' := by
  have h := decode_any hG.laid n hn
  unfold decO at h
  rw [hd, if_pos hm, errI_yes hm] at h
  exact h
theorem enc_at {w : World} (hG : Ground w) (op a b m r : Int) (hm : MayI ⟨op, a, b, m⟩) (hr : encI ⟨op, a, b, m⟩ = r) :
    Calls Tryd.prog 50 #[.agg #[.int .i64 op, .int .i64 a, .int .i64 b, .int .i64 m]] w fun e w' => e = .returned (.tuple #[.int .u32 r, .int .i64 0]) ∧ Below w.heap.size w w' := by
  have h := encode_any hG.laid op a b m
  have e : encW ⟨op, a, b, m⟩ = r := by unfold encW; rw [if_pos hm, hr]
  rw [e, errI_yes hm] at h
  exact h
def aliveS : ByteArray := ⟨#[97, 58, 10, 108, 105, 32, 49, 32, 53, 10, 106, 110, 122, 32, 49, 32, 97, 10, 106, 109, 112, 32, 98, 10, 98, 58, 10, 115, 121, 115, 10]⟩

end
end Go.Proofs.YtoglmemmdolbmaaDoor.I
namespace Go.Proofs.YtoglmemmdolbmaaDoor.B
section
open Go.Proofs.YtoglmemmdolbmaaDoor.I
open Go.RowKit
set_option linter.unusedVariables false
set_option linter.unusedSimpArgs false

def uC (n : Int) : List Value := [.int .u32 n]
def bC (n : Int) : List Value := [.int .u8 n]
abbrev WordsAt (w : World) (A : Option Addr) (l : List Int) : Prop := RowsAt w A 1 (l.map uC)
abbrev BytesAt (w : World) (A : Option Addr) (l : List Int) : Prop := RowsAt w A 1 (l.map bC)
theorem word_at {w : World} {A : Option Addr} {l : List Int} (h : WordsAt w A l) {i : Nat} {x : Int} (hx : l[i]? = some x) : ∃ b off, A = some ⟨b, off, none⟩ ∧ b < w.heap.size ∧ w.cell? ⟨b, off + i, none⟩ = some (.int .u32 x) := by
  obtain ⟨b, off, hA, hb, hc⟩ := h i (uC x) (by rw [List.getElem?_map, hx]; rfl)
  have := hc 0 _ rfl
  rw [Nat.mul_one] at this
  exact ⟨b, off, hA, hb, this⟩
theorem byte_at {w : World} {A : Option Addr} {l : List Int} (h : BytesAt w A l) {i : Nat} {x : Int} (hx : l[i]? = some x) : ∃ b off, A = some ⟨b, off, none⟩ ∧ b < w.heap.size ∧ w.cell? ⟨b, off + i, none⟩ = some (.int .u8 x) := by
  obtain ⟨b, off, hA, hb, hc⟩ := h i (bC x) (by rw [List.getElem?_map, hx]; rfl)
  have := hc 0 _ rfl
  rw [Nat.mul_one] at this
  exact ⟨b, off, hA, hb, this⟩
theorem infoB : (Tryd.prog.info? 5).map (fun i => (i.zero, i.size, i.bytes)) = some (some (.int .u8 0), 1, 1) := by kernel_rfl
abbrev OwnB (w : World) (base : Nat) (v : Value) (l : List Int) : Prop := w.ownsRow base 5 1 v l.length (l.flatMap bC)
theorem ownB_at {w : World} {base : Nat} {v : Value} {l : List Int} (h : OwnB w base v l) : ∃ A c, v = .slice A l.length c ∧ BytesAt w A l ∧ ∀ b off, A = some ⟨b, off, none⟩ → base ≤ b := by
  have := rows_own (k := 1) (w := w) (v := v) (base := base) (t := 5) (rows := l.map bC) (fun r hr => by obtain ⟨x, _, rfl⟩ := List.mem_map.1 hr; rfl) (by rw [List.length_map, ← List.flatMap_def]; exact h)
  rwa [List.length_map] at this
theorem ownB_snoc {w : World} {base : Nat} {v : Value} {l m : List Int} {n : Nat} (h : w.ownsRow base 5 1 v (l.length + n) (l.flatMap bC ++ m.flatMap bC)) (hn : m.length = n) : OwnB w base v (l ++ m) := by
  unfold OwnB
  rw [List.length_append, List.flatMap_append, hn]
  exact h
theorem below_grown {B : Nat} {w w1 w2 : World} {row : Option Nat} (h : Below B w w1) (hg : w1.grownBy w2 row) (hr : ∀ r, row = some r → B ≤ r) (hB : B ≤ w1.heap.size) : Below B w w2 :=
  ⟨hg.os.trans h.os, hg.tape.trans h.tape, hg.output.trans h.output, Nat.le_trans h.size hg.size, fun k hk => (hg.block k (by omega) (fun e => by have := hr k e.symm; omega)).trans (h.block k hk)⟩
theorem own_block {w : World} {base : Nat} {t : TypeId} {s : Nat} {v : Value} {n : Nat} {cs : List Value} (h : w.ownsRow base t s v n cs) : ∀ r, v.ownBlock = some r → base ≤ r := by
  rcases h.2 with ⟨rfl, _⟩ | ⟨g, cap, cur, rfl, hb, _⟩
  · intro r h; simp [Value.ownBlock] at h
  · intro r h; simp [Value.ownBlock] at h; omega
theorem ownsRow_below {w w' : World} {base : Nat} {e : TypeId} {size : Nat} {v : Value} {k : Nat} {xs : List Value} (h : w.ownsRow base e size v k xs) (hb : Below w.heap.size w w') : w'.ownsRow base e size v k xs :=
  h.kept (grownBy_below hb) (by cases v.ownBlock <;> simp)

/-! ## words' bytes -/
def b4 (w : Int) : List Int := [w % 256, w / 256 % 256, w / 65536 % 256, w / 16777216]
def bytesL (ws : List Int) : List Int := ws.flatMap b4
theorem bytesL_len (ws : List Int) : (bytesL ws).length = 4 * ws.length := by
  induction ws with
  | nil => rfl
  | cons x l ih => unfold bytesL at ih ⊢; rw [List.flatMap_cons, List.length_append, ih, List.length_cons]; simp [b4]; omega
theorem bytesL_take {ws : List Int} {k : Nat} {x : Int} (h : ws[k]? = some x) : bytesL (ws.take (k + 1)) = bytesL (ws.take k) ++ b4 x := by
  unfold bytesL; rw [List.take_add_one, h, List.flatMap_append]; simp
def Words (ws : List Int) : Prop := ∀ (i : Nat) (x : Int), ws[i]? = some x → 0 ≤ x ∧ x ≤ 4294967295
set_option maxHeartbeats 2000000 in
theorem isaBytes_any {w : World} (A : Option Addr) (ca : Nat) (ws : List Int) (hl : ws.length ≤ 1000000) (hA : WordsAt w A ws) (hw : Words ws) : Calls Tryd.prog 25 #[.slice A ws.length ca] w
    fun e w' => ∃ v, e = .returned v ∧ OwnB w' w.heap.size v (bytesL ws) ∧ Below w.heap.size w w' := by
  obtain ⟨i0, hi, hz0, hz1, hz2⟩ := info_parts infoB
  go_enter Tryd.func25, Tryd.ntmps25
  go_wp2
  go_loopw [3, 8] (fun v i wr => ∃ k : Nat, i = .int .i64 (k : Int) ∧ k ≤ ws.length ∧ OwnB wr w.heap.size v (bytesL (ws.take k)) ∧ Below w.heap.size w wr) (fun _ i _ => ws.length - (intOf i).toNat)
  case atStart => exact ⟨0, rfl, Nat.zero_le _, World.ownsRow_nil _ _ _ _, Below.refl _ _⟩
  case round =>
    obtain ⟨k, rfl, hk, hown, hB⟩ := hrel
    have hsz := hB.size
    by_cases hkl : k < ws.length
    · have hkb : (k : Int) < (ws.length : Int) := by omega
      have hxe : ws[k]? = some ws[k] := List.getElem?_eq_getElem hkl
      have hnx := bytesL_take hxe
      have hlen : (bytesL (ws.take k)).length ≤ 4 * k := by rw [bytesL_len, List.length_take]; omega
      obtain ⟨hx0, hx1⟩ := hw k _ hxe
      obtain ⟨b, off, rfl, hbl, c0⟩ := word_at (hA.below hB) hxe
      generalize ws[k] = x at *
      generalize bytesL (ws.take k) = sel at *
      have hown0 := hown
      have HN := Lib.hid hnx
      have HO := Lib.hid hown
      clear hnx hxe hown hA
      go_wp2_with (at_builtin; refine wpList_append_own _ rfl _ _ 43 rfl w.heap.size 5 i0 _ 1 1 Tryd.underlying43 hi hz0 hz1 hz2 rfl (by decide) _ _ _ rfl (hown0.alloc _) ⟨wr.heap.size, 0, none⟩ 4 4 ((b4 x).flatMap bC) rfl rfl (cells_new _ _ _) (by simp [b4, bC, Value.oneCell']) (by unfold maxLen; omega) (by omega) (by simp; omega) ?_; intro v' w1 hown' hgrow _)
      go_roundw
      case rel => exact ⟨k + 1, by go_num, by omega, by rw [HN.out]; exact ownB_snoc hown' rfl, below_grown (hB.alloc hsz _) hgrow (own_block HO.out) (by simp; omega)⟩
      case measure => simp [intOf]; omega
    · have hkk : k = ws.length := by omega
      subst hkk
      rw [List.take_length] at hown
      clear hA
      go_wp2
      go_ret
      exact ⟨_, rfl, hown, hB⟩

end
end Go.Proofs.YtoglmemmdolbmaaDoor.B
