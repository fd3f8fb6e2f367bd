/-
  isa.Assemble for a caller; the chapter's first examples hold. Condition: the tables lie as the program's text, and the library's, lay them.
-/
import Derived.Test.YtpikgebfeleajaaGreatDoorIsD
namespace Go.Proofs.YtpikgebfeleajaaGreatDoor.I
open Go.RowKit Go.Shelf
set_option linter.unusedVariables false
set_option linter.unusedSimpArgs false
attribute [local go_sem] Oper.semAt_some

/-- Words that lie in memory. -/
def WordsAt (W : World) (A : Option Addr) (ws : List Int) : Prop := RowsAt W A 1 (ws.map fun x => [Value.int .u32 x])
theorem WordsAt.below {W W' : World} {A : Option Addr} {ws : List Int} (h : WordsAt W A ws) (hb : Below W.heap.size W W') : WordsAt W' A ws := RowsAt.below h hb
theorem wordsAt_cell {W : World} {A : Option Addr} {ws : List Int} (h : WordsAt W A ws) {k : Nat} {x : Int} (hk : ws[k]? = some x) : ∃ g o, A = some ⟨g, o, none⟩ ∧ g < W.heap.size ∧ W.cell? ⟨g, o + k, none⟩ = some (.int .u32 x) := by
  obtain ⟨g, o, hA, hl, hc⟩ := h k [.int .u32 x] (by rw [List.getElem?_map, hk]; rfl)
  have := hc 0 _ rfl
  simp only [Nat.mul_one, Nat.add_zero] at this
  exact ⟨g, o, hA, hl, this⟩
theorem flat_words : ∀ ws : List Int, (ws.map fun x => [Value.int .u32 x]).flatten = wVals ws
  | [] => rfl
  | x :: r => by
    have ih := flat_words r
    rw [List.map_cons, List.flatten_cons, ih]
    rfl
theorem words_own {W : World} {base : Nat} {v : Value} {ws : List Int} (h : W.ownsRow base 41 1 v ws.length (wVals ws)) : ∃ A c, v = .slice A ws.length c ∧ WordsAt W A ws ∧ ws.length ≤ c := by
  have h2 : W.ownsRow base 41 1 v (ws.map fun x => [Value.int .u32 x]).length (ws.map fun x => [Value.int .u32 x]).flatten := by
    rw [List.length_map, flat_words]
    exact h
  obtain ⟨A, c, e, hr, _⟩ := rows_own (fun r hr => by
    obtain ⟨j, _, rfl⟩ := List.mem_map.1 hr
    rfl) h2
  refine ⟨A, c, by rw [e, List.length_map], hr, ?_⟩
  rcases h.2 with ⟨e2, h0⟩ | ⟨g, cap, cur, e2, _, _, hn, _⟩
  · rw [e2] at e
    injection e with _ e3 e4
    omega
  · rw [e2] at e
    injection e with _ e3 e4
    omega
theorem asm_any {w : World} (hG : Ground w) (s : ByteArray) (hs : s.size ≤ 1000000) {ws : List Int} {n er : Int} (ha : asmP (toL s) = (ws, n, er)) :
    Calls Tryz.prog 28 #[.string s] w fun e w' => ∃ A c, e = .returned (.tuple #[.slice A ws.length c, .int .i64 n, .int .i64 er]) ∧ WordsAt w' A ws ∧ ws.length ≤ c ∧ Below w.heap.size w w' := by
  refine (callsIn_wide.1 (assemble_in 12 (by omega) hG s hs)).mono fun e w' h => ?_
  obtain ⟨v, ws', n', er', h1, rfl, h2, h3⟩ := h
  rw [ha] at h1
  simp only [Prod.mk.injEq] at h1
  obtain ⟨rfl, rfl, rfl⟩ := h1
  obtain ⟨A, c, rfl, h4, h5⟩ := words_own h2
  exact ⟨A, c, rfl, h4, h5, h3⟩
theorem dec_at {w : World} (hG : Ground w) (n : Int) (x : Ins) (hn : RangeW n) (hd : decI n = x) (hm : MayI x) :
    Calls Tryz.prog 44 #[.int .u32 n] w fun e w' => e = .returned (.tuple #[.agg #[.int .i64 x.op, .int .i64 x.a, .int .i64 x.b, .int .i64 x.imm], .int .i64 0]) ∧ Below w.heap.size w w' := by
  have h := decode_any hG.laid n hn
  unfold decO at h
  rw [hd, if_pos hm, errI_yes hm] at h
  exact h
theorem enc_at {w : World} (hG : Ground w) (op a b m r : Int) (hm : MayI ⟨op, a, b, m⟩) (hr : encI ⟨op, a, b, m⟩ = r) :
    Calls Tryz.prog 54 #[.agg #[.int .i64 op, .int .i64 a, .int .i64 b, .int .i64 m]] w fun e w' => e = .returned (.tuple #[.int .u32 r, .int .i64 0]) ∧ Below w.heap.size w w' := by
  have h := encode_any hG.laid op a b m
  have e : encW ⟨op, a, b, m⟩ = r := by unfold encW; rw [if_pos hm, hr]
  rw [e, errI_yes hm] at h
  exact h
def aliveS : ByteArray := ⟨#[97, 58, 10, 108, 105, 32, 49, 32, 53, 10, 106, 110, 122, 32, 49, 32, 97, 10, 106, 109, 112, 32, 98, 10, 98, 58, 10, 115, 121, 115, 10]⟩

end Go.Proofs.YtpikgebfeleajaaGreatDoor.I
