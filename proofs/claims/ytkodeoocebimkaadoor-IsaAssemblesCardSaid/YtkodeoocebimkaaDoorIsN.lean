/-
  The law IsaAssembles, walked. Condition: the tables lie as the program's text, and the library's, lay them.
-/
import Derived.Laws.BitsAllLaws
import Derived.Test.YtkodeoocebimkaaDoorRowMem
import Derived.Test.YtkodeoocebimkaaDoorIter
import Derived.Test.YtkodeoocebimkaaDoorIsE
import Derived.Test.YtkodeoocebimkaaDoorIsC
import Derived.BigQuiet
import Derived.IntWalk
import Derived.Test.YtkodeoocebimkaaDoorIsJ
import Derived.Test.YtkodeoocebimkaaDoorRi2
import Derived.Test.YtkodeoocebimkaaDoorRiD
namespace Go.Proofs.YtkodeoocebimkaaDoor
section
namespace B
open Go.RowKit
set_option linter.unusedVariables false
set_option linter.unusedSimpArgs false

def uC (n : Int) : List Value := [.int .u32 n]
def bC (n : Int) : List Value := [.int .u8 n]
abbrev WordsAt (w : World) (A : Option Addr) (l : List Int) : Prop := RowsAt w A 1 (l.map uC)
abbrev BytesAt (w : World) (A : Option Addr) (l : List Int) : Prop := RowsAt w A 1 (l.map bC)
theorem word_at {w : World} {A : Option Addr} {l : List Int} (h : WordsAt w A l) {i : Nat} {x : Int} (hx : l[i]? = some x) : ∃ b off, A = some ⟨b, off, none⟩ ∧ b < w.heap.size ∧ w.cell? ⟨b, off + i, none⟩ = some (.int .u32 x) := by
  obtain ⟨b, off, hA, hb, hc⟩ := h i (uC x) (by rw [List.getElem?_map, hx]; rfl)
  have := hc 0 _ rfl
  rw [Nat.mul_one] at this
  exact ⟨b, off, hA, hb, this⟩
theorem byte_at {w : World} {A : Option Addr} {l : List Int} (h : BytesAt w A l) {i : Nat} {x : Int} (hx : l[i]? = some x) : ∃ b off, A = some ⟨b, off, none⟩ ∧ b < w.heap.size ∧ w.cell? ⟨b, off + i, none⟩ = some (.int .u8 x) := by
  obtain ⟨b, off, hA, hb, hc⟩ := h i (bC x) (by rw [List.getElem?_map, hx]; rfl)
  have := hc 0 _ rfl
  rw [Nat.mul_one] at this
  exact ⟨b, off, hA, hb, this⟩
theorem infoB : (Tryd.prog.info? 5).map (fun i => (i.zero, i.size, i.bytes)) = some (some (.int .u8 0), 1, 1) := by kernel_rfl
abbrev OwnB (w : World) (base : Nat) (v : Value) (l : List Int) : Prop := w.ownsRow base 5 1 v l.length (l.flatMap bC)
theorem ownB_at {w : World} {base : Nat} {v : Value} {l : List Int} (h : OwnB w base v l) : ∃ A c, v = .slice A l.length c ∧ BytesAt w A l ∧ ∀ b off, A = some ⟨b, off, none⟩ → base ≤ b := by
  have := rows_own (k := 1) (w := w) (v := v) (base := base) (t := 5) (rows := l.map bC) (fun r hr => by obtain ⟨x, _, rfl⟩ := List.mem_map.1 hr; rfl) (by rw [List.length_map, ← List.flatMap_def]; exact h)
  rwa [List.length_map] at this
theorem ownB_snoc {w : World} {base : Nat} {v : Value} {l m : List Int} {n : Nat} (h : w.ownsRow base 5 1 v (l.length + n) (l.flatMap bC ++ m.flatMap bC)) (hn : m.length = n) : OwnB w base v (l ++ m) := by
  unfold OwnB
  rw [List.length_append, List.flatMap_append, hn]
  exact h
theorem below_grown {B : Nat} {w w1 w2 : World} {row : Option Nat} (h : Below B w w1) (hg : w1.grownBy w2 row) (hr : ∀ r, row = some r → B ≤ r) (hB : B ≤ w1.heap.size) : Below B w w2 :=
  ⟨hg.os.trans h.os, hg.tape.trans h.tape, hg.output.trans h.output, Nat.le_trans h.size hg.size, fun k hk => (hg.block k (by omega) (fun e => by have := hr k e.symm; omega)).trans (h.block k hk)⟩
theorem own_block {w : World} {base : Nat} {t : TypeId} {s : Nat} {v : Value} {n : Nat} {cs : List Value} (h : w.ownsRow base t s v n cs) : ∀ r, v.ownBlock = some r → base ≤ r := by
  rcases h.2 with ⟨rfl, _⟩ | ⟨g, cap, cur, rfl, hb, _⟩
  · intro r h; simp [Value.ownBlock] at h
  · intro r h; simp [Value.ownBlock] at h; omega
theorem ownsRow_below {w w' : World} {base : Nat} {e : TypeId} {size : Nat} {v : Value} {k : Nat} {xs : List Value} (h : w.ownsRow base e size v k xs) (hb : Below w.heap.size w w') : w'.ownsRow base e size v k xs :=
  h.kept (grownBy_below hb) (by cases v.ownBlock <;> simp)

/-! ## words' bytes -/
def b4 (w : Int) : List Int := [w % 256, w / 256 % 256, w / 65536 % 256, w / 16777216]
def bytesL (ws : List Int) : List Int := ws.flatMap b4
theorem bytesL_len (ws : List Int) : (bytesL ws).length = 4 * ws.length := by
  induction ws with
  | nil => rfl
  | cons x l ih => unfold bytesL at ih ⊢; rw [List.flatMap_cons, List.length_append, ih, List.length_cons]; simp [b4]; omega
theorem bytesL_take {ws : List Int} {k : Nat} {x : Int} (h : ws[k]? = some x) : bytesL (ws.take (k + 1)) = bytesL (ws.take k) ++ b4 x := by
  unfold bytesL; rw [List.take_add_one, h, List.flatMap_append]; simp
def Words (ws : List Int) : Prop := ∀ (i : Nat) (x : Int), ws[i]? = some x → 0 ≤ x ∧ x ≤ 4294967295
set_option maxHeartbeats 2000000 in
theorem isaBytes_any {w : World} (A : Option Addr) (ca : Nat) (ws : List Int) (hl : ws.length ≤ 1000000) (hA : WordsAt w A ws) (hw : Words ws) : Calls Tryd.prog 27 #[.slice A ws.length ca] w
    fun e w' => ∃ v, e = .returned v ∧ OwnB w' w.heap.size v (bytesL ws) ∧ Below w.heap.size w w' := by
  obtain ⟨i0, hi, hz0, hz1, hz2⟩ := info_parts infoB
  go_enter Tryd.func27, Tryd.ntmps27
  go_wp2
  go_loopw [3, 8] (fun v i wr => ∃ k : Nat, i = .int .i64 (k : Int) ∧ k ≤ ws.length ∧ OwnB wr w.heap.size v (bytesL (ws.take k)) ∧ Below w.heap.size w wr) (fun _ i _ => ws.length - (intOf i).toNat)
  case atStart => exact ⟨0, rfl, Nat.zero_le _, World.ownsRow_nil _ _ _ _, Below.refl _ _⟩
  case round =>
    obtain ⟨k, rfl, hk, hown, hB⟩ := hrel
    have hsz := hB.size
    by_cases hkl : k < ws.length
    · have hkb : (k : Int) < (ws.length : Int) := by omega
      have hxe : ws[k]? = some ws[k] := List.getElem?_eq_getElem hkl
      have hnx := bytesL_take hxe
      have hlen : (bytesL (ws.take k)).length ≤ 4 * k := by rw [bytesL_len, List.length_take]; omega
      obtain ⟨hx0, hx1⟩ := hw k _ hxe
      obtain ⟨b, off, rfl, hbl, c0⟩ := word_at (hA.below hB) hxe
      generalize ws[k] = x at *
      generalize bytesL (ws.take k) = sel at *
      have hown0 := hown
      have HN := Lib.hid hnx
      have HO := Lib.hid hown
      clear hnx hxe hown hA
      go_wp2_with (at_builtin; refine wpList_append_own _ rfl _ _ 55 rfl w.heap.size 5 i0 _ 1 1 Tryd.underlying55 hi hz0 hz1 hz2 rfl (by decide) _ _ _ rfl (hown0.alloc _) ⟨wr.heap.size, 0, none⟩ 4 4 ((b4 x).flatMap bC) rfl rfl (cells_new _ _ _) (by simp [b4, bC, Value.oneCell']) (by unfold maxLen; omega) (by omega) (by simp; omega) ?_; intro v' w1 hown' hgrow _)
      go_roundw
      case rel => exact ⟨k + 1, by go_num, by omega, by rw [HN.out]; exact ownB_snoc hown' rfl, below_grown (hB.alloc hsz _) hgrow (own_block HO.out) (by simp; omega)⟩
      case measure => simp [intOf]; omega
    · have hkk : k = ws.length := by omega
      subst hkk
      rw [List.take_length] at hown
      clear hA
      go_wp2
      go_ret
      exact ⟨_, rfl, hown, hB⟩

end B
open Go.RowKit
attribute [local go_sem] Oper.semAt_some
set_option maxHeartbeats 1000000 in
theorem sameW_any {w : World} (A B : Option Addr) (ca cb : Nat) (xs ys : List Int) (hx : WordsAt w A xs) (hy : WordsAt w B ys) (hxl : xs.length ≤ 1000000) (hyl : ys.length ≤ 1000000) :
    Calls Tryd.prog 25 #[.slice A xs.length ca, .slice B ys.length cb] w fun e w' => e = .returned (.bool (decide (xs = ys))) ∧ Below w.heap.size w w' := by
  by_cases hlen : xs.length = ys.length
  · go_enter Tryd.func25, Tryd.ntmps25
    have hb : ((xs.length : Int) != (ys.length : Int)) = false := by simp [hlen]
    have HL := Lib.hid hlen
    clear hlen
    go_wp2
    go_loopw [5] (fun i wr => ∃ k : Nat, i = .int .i64 (k : Int) ∧ k ≤ xs.length ∧ (∀ j, j < k → xs[j]? = ys[j]?) ∧ Below w.heap.size w wr) (fun i _ => xs.length - (intOf i).toNat)
    case atStart => exact ⟨0, rfl, Nat.zero_le _, fun j hj => absurd hj (Nat.not_lt_zero j), Below.refl _ _⟩
    case round =>
      obtain ⟨k, rfl, hk, hpre, hB⟩ := hrel
      have HP := Lib.hid hpre
      clear hpre
      by_cases hki : k < xs.length
      · have hkb : (k : Int) < (xs.length : Int) := by omega
        have hlen := HL.out
        have hkb2 : (k : Int) < (ys.length : Int) := by omega
        have hxe : xs[k]? = some xs[k] := List.getElem?_eq_getElem hki
        have hye : ys[k]? = some (ys[k]'(by omega)) := List.getElem?_eq_getElem (by omega)
        obtain ⟨b, off, rfl, hbl, c0⟩ := wordsAt_cell (hx.below hB) hxe
        obtain ⟨b', off', rfl, hbl', d0⟩ := wordsAt_cell (hy.below hB) hye
        by_cases hxy : xs[k] = ys[k]'(by omega)
        · have hnx : ∀ j, j < k + 1 → xs[j]? = ys[j]? := fun j hj => by
            rcases Nat.lt_or_ge j k with h | h
            · exact HP.out j h
            · have : j = k := by omega
              subst this
              rw [hxe, hye, hxy]
          have HN := Lib.hid hnx
          generalize xs[k] = x at *
          generalize ys[k]'(by omega) = y at *
          have hb1 : (x != y) = false := by simp [hxy]
          clear hnx hxe hye hxy hlen hx hy
          go_wp2_with (go_quiet (fail))
          go_roundw
          case rel => exact ⟨k + 1, by go_num, by omega, HN.out, by first | exact hB | exact belowN hB _ | exact hB.drew⟩
          case measure => simp [intOf]; omega
        · have hne : decide (xs = ys) = false := decide_eq_false fun h => hxy (by subst h; rfl)
          have HNE := Lib.hid hne
          generalize xs[k] = x at *
          generalize ys[k]'(by omega) = y at *
          have hb1 : (x != y) = true := by simp [hxy]
          clear hxe hye hxy hlen hx hy hne
          go_wp2_with (go_quiet (fail))
          go_ret
          exact ⟨by rw [HNE.out]; rfl, by first | exact hB | exact belowN hB _ | exact hB.drew⟩
      · have hlen := HL.out
        have hxy : xs = ys := by
          apply List.ext_getElem?
          intro j
          rcases Nat.lt_or_ge j k with h | h
          · exact HP.out j h
          · rw [List.getElem?_eq_none (by omega), List.getElem?_eq_none (by omega)]
        have hd : decide (xs = ys) = true := decide_eq_true hxy
        have HD := Lib.hid hd
        clear hd hxy hlen
        go_wp2
        go_ret
        exact ⟨by rw [HD.out]; rfl, hB⟩
  · have hne : decide (xs = ys) = false := by simp; intro h; exact hlen (by rw [h])
    rw [hne]
    have hb : ((xs.length : Int) != (ys.length : Int)) = true := by simp; omega
    clear hlen hne hx hy
    go_enter Tryd.func25, Tryd.ntmps25
    go_wp2
    go_ret
    exact ⟨rfl, Below.refl _ _⟩


end
section
section
set_option linter.unusedVariables false
set_option linter.unusedSimpArgs false

def WordsOk (ws : List Int) : Prop := ws.length ≤ 512 ∧ ∀ w ∈ ws, RangeW w
theorem takeP_ok {p : PgS} (h : WordsOk p.words) (s : List UInt8) (line : Int) : WordsOk (takeP p s line).1.words := by
  unfold takeP
  cases hc : cutSuf 58 s with
  | some n =>
    simp only
    split
    · exact h
    · exact h
  | none =>
    simp only
    split
    · exact h
    · rename_i hl
      have hz : ∀ (x : Int), RangeW x → WordsOk (p.words ++ [x]) := fun x hx => by
        refine ⟨by rw [List.length_append]; simp only [List.length_cons, List.length_nil]; omega, fun w hw => ?_⟩
        rcases List.mem_append.1 hw with hw | hw
        · exact h.2 w hw
        · rw [List.mem_singleton.1 hw]; exact hx
      split
      · refine hz _ ?_
        unfold RangeW
        omega
      · exact hz _ (encW_range _)
theorem runA_ok : ∀ (ls : List (List UInt8)) (p : PgS) (n : Int), WordsOk p.words → WordsOk (runA p n ls).1.words
  | [], p, n, h => h
  | l :: ls, p, n, h => by
    unfold runA
    split
    · split
      · exact runA_ok ls _ _ (takeP_ok h _ _)
      · exact takeP_ok h _ _
    · exact h
theorem fixJ_ok (labs : List (List UInt8 × Int)) : ∀ (js : List JmpS) (ws : List Int), WordsOk ws → WordsOk (fixJ labs js ws).1
  | [], ws, h => h
  | j :: js, ws, h => by
    unfold fixJ
    split
    · exact h
    · split
      · rename_i hm
        refine fixJ_ok labs js _ ⟨by rw [List.length_set]; exact h.1, fun w hw => ?_⟩
        rcases List.mem_or_eq_of_mem_set hw with hw | rfl
        · exact h.2 w hw
        · exact encI_range hm
      · exact h
theorem asm_ok (s : List UInt8) : WordsOk (asmP s).1 := by
  have h1 := runA_ok (lns s) pg0 0 ⟨by decide, fun w hw => (by cases hw)⟩
  unfold asmP
  split
  · have h2 := fixJ_ok (runA pg0 0 (lns s)).1.labs (runA pg0 0 (lns s)).1.jumps _ h1
    split
    · rename_i h3
      rw [h3] at h2
      exact h2
    · exact ⟨Nat.zero_le _, fun w hw => (by cases hw)⟩
  · exact ⟨Nat.zero_le _, fun w hw => (by cases hw)⟩
end
section
open Go.RowKit Go.Shelf
set_option linter.unusedVariables false
set_option linter.unusedSimpArgs false
attribute [local go_sem] Oper.semAt_some

theorem refAsmW {w : World} (s : ByteArray) (hs : s.size ≤ 1000000) {ws : List Int} {n er : Int} (ha : asmP s.data.toList = (ws, n, er)) :
    Calls Tryd.prog 26 #[.string s] w fun e w' => ∃ A c, e = .returned (.tuple #[.slice A ws.length c, .int .i64 n, .int .i64 er]) ∧ WordsAt w' A ws ∧ Below w.heap.size w w' := by
  refine (refAsm_any mayC s hs).mono fun e w' h => ?_
  obtain ⟨v, h1, h2, h3⟩ := h
  rw [asm_same, ha] at h1 h2
  obtain ⟨A, c, rfl, h4, _⟩ := words_own h2
  exact ⟨A, c, h1, h4, h3⟩

theorem b4_sum {x : Int} (h0 : 0 ≤ x) (h1 : x ≤ 4294967295) : ∃ a b c d : Int, B.b4 x = [a, b, c, d] ∧ (0 ≤ a ∧ a ≤ 255) ∧ (0 ≤ b ∧ b ≤ 255) ∧ (0 ≤ c ∧ c ≤ 255) ∧ (0 ≤ d ∧ d ≤ 255) ∧ a + b * 256 + c * 65536 + d * 16777216 = x :=
  ⟨_, _, _, _, rfl, by omega, by omega, by omega, by omega, by omega⟩
theorem bytes_ofW : ∀ (ws : List Int) {k : Nat} {x : Int} (hk : ws[k]? = some x) {a b c d : Int} (hb : B.b4 x = [a, b, c, d]),
    (B.bytesL ws)[4 * k]? = some a ∧ (B.bytesL ws)[4 * k + 1]? = some b ∧ (B.bytesL ws)[4 * k + 2]? = some c ∧ (B.bytesL ws)[4 * k + 3]? = some d
  | [], k, x, hk, _, _, _, _, _ => by cases hk
  | y :: r, 0, x, hk, a, b, c, d, hb => by
    have e : y = x := Option.some.inj hk
    subst e
    have h : B.bytesL (y :: r) = [a, b, c, d] ++ B.bytesL r := by rw [← hb]; unfold B.bytesL; rw [List.flatMap_cons]
    rw [h]
    exact ⟨rfl, rfl, rfl, rfl⟩
  | y :: r, k + 1, x, hk, a, b, c, d, hb => by
    have ih := bytes_ofW r (k := k) (x := x) hk hb
    have h : B.bytesL (y :: r) = y % 256 :: y / 256 % 256 :: y / 65536 % 256 :: y / 16777216 :: B.bytesL r := by unfold B.bytesL; rw [List.flatMap_cons]; rfl
    rw [h]
    have e1 : 4 * (k + 1) = 4 * k + 4 := by omega
    rw [e1]
    exact ih

set_option maxRecDepth 100000 in
set_option maxHeartbeats 8000000 in
theorem assemblesLaw_any {w : World} (hG : Ground w) (s : ByteArray) (hs : s.size ≤ maxLen) (A : Option Addr) (ca : Nat) (ws : List Int) (hA : WordsAt w A ws) (hl : ws.length ≤ maxLen) (hr : ∀ x ∈ ws, RangeW x) :
    Calls Tryd.prog 9 #[.string s, .slice A ws.length ca] w fun e w' => e = .returned (.bool true) ∧ Below w.heap.size w w' := by
  unfold maxLen at hl hs
  by_cases hb1 : 3000 < s.size
  · have h1 : (3000 : Int) < (s.size : Int) := by omega
    clear hA hr hG
    go_enter Tryd.func9, Tryd.ntmps9
    go_wp2
    go_ret
    exact ⟨rfl, Below.refl _ _⟩
  have h1 : ¬ (3000 : Int) < (s.size : Int) := by omega
  by_cases hb2 : 600 < ws.length
  · have h2 : (600 : Int) < (ws.length : Int) := by omega
    clear hA hr hG
    go_enter Tryd.func9, Tryd.ntmps9
    go_wp2
    go_ret
    exact ⟨rfl, Below.refl _ _⟩
  have h2 : ¬ (600 : Int) < (ws.length : Int) := by omega
  have hl2 : ws.length ≤ 600 := by omega
  obtain ⟨⟨out, n, er⟩, hP⟩ : ∃ P, asmP s.data.toList = P := ⟨_, rfl⟩
  have hok : out.length ≤ 512 := by
    have h := (asm_ok s.data.toList).1
    rw [hP] at h
    exact h
  obtain ⟨t, ht⟩ : ∃ t : ByteArray, t = ⟨(listP ws).toArray⟩ := ⟨_, rfl⟩
  have hBL := B.bytesL_len ws
  obtain ⟨q, hq⟩ : ∃ q, (B.bytesL ws).length = q := ⟨_, rfl⟩
  have H1 := Lib.hid (fun W (hW : Below w.heap.size w W) => asm_any (hG.below hW) s (by omega) (ws := out) (n := n) (er := er) hP)
  have H2 := Lib.hid (fun W => refAsmW (w := W) s (by omega) hP)
  have H3 := Lib.hid (fun W (hW : Below w.heap.size w W) => show Calls Tryd.prog 27 #[.slice A ws.length ca] W fun e w' => ∃ A3 c3, e = .returned (.slice A3 q c3) ∧ B.BytesAt w' A3 (B.bytesL ws) ∧ Below W.heap.size W w' from by
    refine (B.isaBytes_any A ca ws (by omega) (hA.below hW) (fun i x hx => by have := hr x (List.mem_of_getElem? hx); unfold RangeW at this; omega)).mono fun e w' h => ?_
    obtain ⟨v, rfl, ho, hb⟩ := h
    obtain ⟨A3, c3, rfl, h3, _⟩ := B.ownB_at ho
    exact ⟨A3, c3, by rw [hq], h3, hb⟩)
  have H4 := Lib.hid (fun W (hW : Below w.heap.size w W) X (hX : Below W.heap.size W X) A1 A2 c1 c2 (ha : WordsAt W A1 out) (hb : WordsAt W A2 out) => show Calls Tryd.prog 25 #[.slice A1 out.length c1, .slice A2 out.length c2] X fun e w' => e = .returned (.bool true) ∧ Below W.heap.size W w' from by
    have h := sameW_any (w := X) A1 A2 c1 c2 out out (ha.below hX) (hb.below hX) (by omega) (by omega)
    rw [decide_eq_true rfl] at h
    exact h.mono fun r w' h => ⟨h.1, bl_step hX h.2⟩)
  have H5 := Lib.hid (fun W (hW : Below w.heap.size w W) X (hX : Below W.heap.size W X) => show Calls Tryd.prog 24 #[.slice A ws.length ca] X fun e w' => e = .returned (.string t) ∧ Below W.heap.size W w' from by
    rw [ht]
    have hWX := hW.trans (hX.mono hW.size)
    exact (list_any (hG.below hWX) A ca ws (by omega) (hA.below hWX) hr).mono fun r w' h => ⟨h.1, bl_step hX h.2⟩)
  have H6 := Lib.hid (fun W (hW : Below w.heap.size w W) X (hX : Below W.heap.size W X) => show Calls Tryd.prog 28 #[.slice A ws.length ca] X fun e w' => e = .returned (.string t) ∧ Below W.heap.size W w' from by
    rw [ht]
    have hWX := hW.trans (hX.mono hW.size)
    exact (refList_any mayC A ca ws (by omega) (hA.below hWX) hr).mono fun r w' h => ⟨h.1, bl_step hX h.2⟩)
  have hq4 : (q : Int) = 4 * (ws.length : Int) := by omega
  have hwr : IntKind.i64.wrap (4 * (ws.length : Int)) = 4 * (ws.length : Int) := IntWalk.i64_in _ (by omega)
  have HA := Lib.hid hA
  have HR := Lib.hid hr
  have HQ := Lib.hid (⟨hq4, hwr⟩ : (q : Int) = 4 * (ws.length : Int) ∧ IntKind.i64.wrap (4 * (ws.length : Int)) = 4 * (ws.length : Int))
  have HQN := Lib.hid (show q = 4 * ws.length by omega)
  clear hA hr hG ht hP hBL hq hq4 hwr
  have HW0 := Lib.hid (Below.refl w.heap.size w)
  go_enter Tryd.func9, Tryd.ntmps9
  go_wp2_with fail
  refine (H1.out _ HW0.out).mono ?_
  rintro e W1 ⟨A1, c1, rfl, ha, _, hb⟩
  have HB1 := Lib.hid hb
  have HA1 := Lib.hid ha
  clear hb ha
  go_wp2_with fail
  refine (H2.out _).mono ?_
  rintro e W2 ⟨A2, c2, rfl, ha, hb⟩
  have HB2 := Lib.hid (HB1.out.trans (hb.mono HB1.out.size))
  have HA2 := Lib.hid (HA1.out.below hb)
  have HA2' := Lib.hid ha
  clear hb ha HA1 HB1
  go_wp2_with fail
  refine (H3.out _ HB2.out).mono ?_
  rintro e W3 ⟨A3, c3, rfl, ha, hb⟩
  have HB3 := Lib.hid (HB2.out.trans (hb.mono HB2.out.size))
  have HA3 := Lib.hid (HA2.out.below hb)
  have HA3' := Lib.hid (HA2'.out.below hb)
  have HBY := Lib.hid ha
  have K4 := Lib.hid (fun X (hX : Below W3.heap.size W3 X) => H4.out W3 HB3.out X hX A1 A2 c1 c2 HA3.out HA3'.out)
  have K5 := Lib.hid (fun X (hX : Below W3.heap.size W3 X) => H5.out W3 HB3.out X hX)
  have K6 := Lib.hid (fun X (hX : Below W3.heap.size W3 X) => H6.out W3 HB3.out X hX)
  have HRF := Lib.hid (Below.refl W3.heap.size W3)
  clear hb ha HA2 HA2' HB2 H1 H2 H3 H4 H5 H6 HA3 HA3' HW0
  obtain ⟨hq4, hwr⟩ := HQ.out
  go_wp2_with fail
  refine (K4.out _ HRF.out).mono ?_
  rintro e W4 ⟨rfl, hW4⟩
  have HW4 := Lib.hid hW4
  clear hW4 HRF K4
  go_wp2_with fail
  refine (K5.out _ HW4.out).mono ?_
  rintro e W5 ⟨rfl, hW5⟩
  have HW5 := Lib.hid hW5
  clear hW5 HW4 K5
  go_wp2_with fail
  refine (K6.out _ HW5.out).mono ?_
  rintro e W6 ⟨rfl, hW6⟩
  have HB6 := Lib.hid (HB3.out.trans (hW6.mono HB3.out.size))
  have HBY6 := Lib.hid (RowsAt.below HBY.out hW6)
  clear hW6 HW5 K6 HBY HB3
  go_wp2
  go_loopw [12] (fun i wr => ∃ k : Nat, i = .int .i64 (k : Int) ∧ k ≤ ws.length ∧ Hid (Below W6.heap.size W6 wr)) (fun i _ => ws.length - (intOf i).toNat)
  case atStart => exact ⟨0, rfl, Nat.zero_le _, Below.refl _ _⟩
  case round =>
    obtain ⟨k, rfl, hk, HBW⟩ := hrel
    by_cases hkl : k < ws.length
    · have hka : (k : Int) < (ws.length : Int) := by omega
      have hk0 : (0 : Int) ≤ (k : Int) := by omega
      have hxe : ws[k]? = some ws[k] := List.getElem?_eq_getElem hkl
      have hxr := HR.out _ (List.getElem_mem hkl)
      obtain ⟨g, o, e1, hgl, hc⟩ := wordsAt_cell ((HA.out.below HB6.out).below HBW.out) hxe
      generalize ws[k] = x at *
      unfold RangeW at hxr
      obtain ⟨b0, b1, b2, b3, hb4, r0, r1, r2, r3, hsum⟩ := b4_sum (x := x) hxr.1 (by omega)
      obtain ⟨p0, p1, p2, p3⟩ := bytes_ofW ws hxe hb4
      have hBB := RowsAt.below HBY6.out HBW.out
      obtain ⟨g3, o3, rfl, hgl3, c0⟩ := B.byte_at hBB p0
      obtain ⟨_, _, e31, _, c1⟩ := B.byte_at hBB p1
      obtain ⟨_, _, e32, _, c2⟩ := B.byte_at hBB p2
      obtain ⟨_, _, e33, _, c3⟩ := B.byte_at hBB p3
      injection e31 with e31; injection e31 with e31a e31b; subst e31a e31b
      injection e32 with e32; injection e32 with e32a e32b; subst e32a e32b
      injection e33 with e33; injection e33 with e33a e33b; subst e33a e33b
      subst e1
      have hqn := HQN.out
      have hw4 : IntKind.i64.wrap (4 * (k : Int)) = 4 * (k : Int) := IntWalk.i64_in _ (by omega)
      have hq1 : 4 * (k : Int) < (q : Int) := by omega
      have hq2 : 4 * (k : Int) + 1 < (q : Int) := by omega
      have hq3 : 4 * (k : Int) + 2 < (q : Int) := by omega
      have hq5 : 4 * (k : Int) + 3 < (q : Int) := by omega
      clear hxe hb4 p0 p1 p2 p3 hBB hxr
      go_wp2_with (go_quiet (fail))
      go_roundw
      case rel => exact ⟨k + 1, by go_num, by omega, by first | exact HBW | exact belowN HBW.out _ | exact HBW.out.drew⟩
      case measure => simp [intOf]; omega
    · have hkk : k = ws.length := by omega
      have hka : ¬ (k : Int) < (ws.length : Int) := by omega
      have HB7 := Lib.hid (HB6.out.trans (HBW.out.mono HB6.out.size))
      go_wp2
      go_ret
      exact ⟨rfl, HB7.out⟩
end
end
end Go.Proofs.YtkodeoocebimkaaDoor
