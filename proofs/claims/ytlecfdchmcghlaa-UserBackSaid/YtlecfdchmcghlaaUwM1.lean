/-
  Words' bytes, PutWords, Same, First and Alike of spaces. Condition: spaces lie, over their frames.
-/
import Derived.Test.YtlecfdchmcghlaaUs3
import Derived.Maps.OwnSet
import Derived.OrdersHeld
import Derived.Test.YtlecfdchmcghlaaSpQB
namespace Go.Proofs.Ytlecfdchmcghlaa
section
open Go.RowKit Go.Shelf
set_option linter.unusedVariables false
set_option linter.unusedSimpArgs false
attribute [local go_sem] Oper.semAt_some

def b4 (w : Int) : List Int := [w % 256, w / 256 % 256, w / 65536 % 256, w / 16777216]
def bytesL (ws : List Int) : List Int := ws.flatMap b4
theorem bytesL_len (ws : List Int) : (bytesL ws).length = 4 * ws.length := by
  induction ws with
  | nil => rfl
  | cons x l ih => unfold bytesL at ih ⊢; rw [List.flatMap_cons, List.length_append, ih, List.length_cons]; simp [b4]; omega
theorem bytesL_take {ws : List Int} {k : Nat} {x : Int} (h : ws[k]? = some x) : bytesL (ws.take (k + 1)) = bytesL (ws.take k) ++ b4 x := by
  unfold bytesL; rw [List.take_add_one, h, List.flatMap_append]; simp
theorem b4_low {x : Int} (h0 : 0 ≤ x) (h1 : x ≤ 4294967295) : ∀ y ∈ b4 x, 0 ≤ y ∧ y ≤ 255 := by
  intro y hy
  unfold b4 at hy
  simp only [List.mem_cons, List.not_mem_nil, or_false] at hy
  rcases hy with rfl | rfl | rfl | rfl <;> omega
theorem bytesL_low {ws : List Int} (h : ∀ x ∈ ws, 0 ≤ x ∧ x ≤ 4294967295) : ∀ y ∈ bytesL ws, 0 ≤ y ∧ y ≤ 255 := by
  intro y hy
  unfold bytesL at hy
  obtain ⟨x, hx, hy⟩ := List.mem_flatMap.1 hy
  exact b4_low (h x hx).1 (h x hx).2 y hy
/-- Words lie there. -/
structure WordsA (w : World) (A : Option Addr) (c : Nat) (ws : List Int) : Prop where
  low : ∀ x ∈ ws, 0 ≤ x ∧ x ≤ 4294967295
  cap : ws.length ≤ c
  src : 0 < ws.length → ∃ g o : Nat, A = some ⟨g, o, none⟩ ∧ g < w.heap.size ∧ ∀ (j : Nat) (v : Value), (ws.map fun x => Value.int .u32 x)[j]? = some v → w.cell? ⟨g, o + j, none⟩ = some v
theorem WordsA.below {w w' : World} {A : Option Addr} {c : Nat} {ws : List Int} (h : WordsA w A c ws) (hb : Below w.heap.size w w') : WordsA w' A c ws :=
  ⟨h.low, h.cap, fun hp => by
    obtain ⟨g, o, e, hg, hc⟩ := h.src hp
    exact ⟨g, o, e, Nat.lt_of_lt_of_le hg hb.size, fun j v hv => (hb.cell hg).trans (hc j v hv)⟩⟩
theorem WordsA.at_ {w : World} {A : Option Addr} {c : Nat} {ws : List Int} (h : WordsA w A c ws) {i : Nat} {x : Int} (hx : ws[i]? = some x) : ∃ b off, A = some ⟨b, off, none⟩ ∧ b < w.heap.size ∧ w.cell? ⟨b, off + i, none⟩ = some (.int .u32 x) := by
  obtain ⟨g, o, e, hg, hc⟩ := h.src (by have := (List.getElem?_eq_some_iff.1 hx).1; omega)
  exact ⟨g, o, e, hg, hc i _ (by rw [List.getElem?_map, hx]; rfl)⟩
set_option maxRecDepth 100000 in
theorem split_any {w : World} (x : Int) (h0 : 0 ≤ x) (h1 : x ≤ 4294967295) : Calls Try.prog 64 #[.int .u32 x] w
    fun e w' => e = .returned (.agg #[.int .u8 (x % 256), .int .u8 (x / 256 % 256), .int .u8 (x / 65536 % 256), .int .u8 (x / 16777216)]) ∧ Below w.heap.size w w' := by
  go_enter Try.func64, Try.ntmps64
  go_wp2
  exact bodyPost_ret (results_cell Try.results64 _ rfl (Blk.new w 131 #[.int .u8 (x % 256), .int .u8 (x / 256 % 256), .int .u8 (x / 65536 % 256), .int .u8 (x / 16777216)]) Try.underlying131 rfl (by kernel_rfl)) rfl ⟨rfl, bl_new (Below.refl _ _) _⟩
set_option maxRecDepth 100000 in
theorem bytes4_any {w : World} (x : Int) (h0 : 0 ≤ x) (h1 : x ≤ 4294967295) : Calls Try.prog 48 #[.int .u32 x] w
    fun e w' => ∃ g, e = .returned (.slice (some ⟨g, 0, none⟩) 4 4) ∧ Below w.heap.size w w' ∧ w.heap.size ≤ g ∧ g < w'.heap.size ∧ ∀ (j : Nat) (v : Value), ((b4 x).map fun x => Value.int .u8 x)[j]? = some v → w'.cell? ⟨g, 0 + j, none⟩ = some v := by
  go_enter Try.func48, Try.ntmps48
  go_wp2_with (fail)
  refine (split_any x h0 h1).mono ?_
  rintro e W1 ⟨rfl, hb⟩
  have HB := Lib.hid hb
  clear hb
  have HX := Lib.hid (Blk.new W1 131 #[.int .u8 (x % 256), .int .u8 (x / 256 % 256), .int .u8 (x / 65536 % 256), .int .u8 (x / 16777216)])
  go_wp2
  go_ret
  refine ⟨_, rfl, bl_new HB.out _, HB.out.size, HX.out.lt, fun j v hv => ?_⟩
  rw [Nat.zero_add, HX.out.cell]
  rw [← hv]
  unfold b4
  simp
set_option maxRecDepth 100000 in
set_option maxHeartbeats 4000000 in
theorem all_any {w : World} {A : Option Addr} {ca : Nat} {ws : List Int} (hl : ws.length ≤ 1000000) (hA : WordsA w A ca ws) : Calls Try.prog 30 #[.slice A ws.length ca] w
    fun e w' => ∃ v, e = .returned v ∧ w'.ownsRow w.heap.size 5 1 v (bytesL ws).length ((bytesL ws).map fun x => Value.int .u8 x) ∧ Below w.heap.size w w' := by
  obtain ⟨i0, hi, hz0, hz1, hz2⟩ := info_parts infoU8
  have HA := Lib.hid hA
  clear hA
  go_enter Try.func30, Try.ntmps30
  go_wp2
  go_loopw [3, 8] (fun v i wr => ∃ k : Nat, i = .int .i64 (k : Int) ∧ k ≤ ws.length ∧ Hid (wr.ownsRow w.heap.size 5 1 v (bytesL (ws.take k)).length ((bytesL (ws.take k)).map fun x => Value.int .u8 x) ∧ Below w.heap.size w wr)) (fun _ i _ => ws.length - (intOf i).toNat)
  case atStart => exact ⟨0, rfl, Nat.zero_le _, Lib.hid ⟨World.ownsRow_nil _ _ _ _, Below.refl _ _⟩⟩
  case round =>
    obtain ⟨k, rfl, hk, H⟩ := hrel
    by_cases hkl : k < ws.length
    · have hkb : (k : Int) < (ws.length : Int) := by omega
      have hxe : ws[k]? = some ws[k] := List.getElem?_eq_getElem hkl
      have hmem : ws[k] ∈ ws := List.getElem_mem hkl
      obtain ⟨hx0, hx1⟩ := HA.out.low _ hmem
      obtain ⟨b, off, rfl, hbl, c0⟩ := (HA.out.below H.out.2).at_ hxe
      have HN := Lib.hid (bytesL_take hxe)
      have hlen : (bytesL (ws.take k)).length ≤ 4 * k := by rw [bytesL_len, List.length_take]; omega
      clear hxe hmem
      generalize ws[k] = x at *
      generalize hsel : bytesL (ws.take k) = sel at *
      have HL := Lib.hid hlen
      clear hlen hsel
      go_wp2_with (fail)
      refine (bytes4_any x hx0 hx1).mono ?_
      rintro e W1 ⟨g, rfl, hb1, hg1, hg2, hc1⟩
      have HB1 := Lib.hid hb1
      have HC1 := Lib.hid hc1
      have HG1 := Lib.hid (show wr.heap.size ≤ g ∧ g < W1.heap.size from ⟨hg1, hg2⟩)
      clear hb1 hc1 hg1 hg2
      have hlen := HL.out
      have HO := Lib.hid (ownsRow_below H.out.1 HB1.out)
      have HW := Lib.hid (bl_step H.out.2 HB1.out)
      have hws := HW.out.size
      have HX1 := Lib.hid (show ∀ (j : Nat) (u : Value), ((b4 x).map fun x => Value.int .u8 x)[j]? = some u → W1.cell? ((⟨g, 0, none⟩ : Addr).add j) = some u from fun j u hu => by rw [Addr.add_lit]; exact HC1.out j u hu)
      have HX2 := Lib.hid (show ∀ u ∈ ((b4 x).map fun x => Value.int .u8 x), u.oneCell' = true from by simp [b4, Value.oneCell'])
      have HX3 := Lib.hid (show (sel.map fun x => Value.int .u8 x).length = sel.length ∧ sel.length + 4 ≤ maxLen ∧ (sel.length + 4) * 1 ≤ 140737488355328 from ⟨List.length_map .., by unfold maxLen; omega, by omega⟩)
      have HX4 := Lib.hid hws
      clear hws
      go_wp2_with (at_builtin; refine wpList_append_own _ rfl _ _ 50 rfl w.heap.size 5 i0 _ 1 1 Try.underlying50 hi hz0 hz1 hz2 rfl (by decide) _ _ _ rfl HO.out ⟨g, 0, none⟩ 4 4 ((b4 x).map fun x => Value.int .u8 x) rfl rfl HX1.out HX2.out HX3.out.2.1 HX3.out.2.2 HX4.out ?_; intro v' w3 hown' hgrow _; have HOW := Lib.hid hown'; have HGR := Lib.hid hgrow; clear hown' hgrow)
      refine ⟨⟨k + 1, by go_num, by omega, Lib.hid ⟨?_, ?_⟩⟩, by simp [intOf]; omega⟩
      · rw [HN.out, List.map_append, List.length_append]
        exact HOW.out
      · have hws := HX4.out
        exact HW.out.grown HGR.out hws (fun r e => by obtain ⟨h1, _⟩ := row_block HO.out e; omega)
    · have hkk : k = ws.length := by omega
      subst hkk
      obtain ⟨h1, h2⟩ := H.out
      rw [List.take_length] at h1
      have H1 := Lib.hid h1
      have H2 := Lib.hid h2
      clear h1 h2 H
      go_wp2
      go_ret
      exact ⟨_, rfl, H1.out, H2.out⟩
end
section
open Go.RowKit Go.Shelf
set_option linter.unusedVariables false
set_option linter.unusedSimpArgs false
attribute [local go_sem] Oper.semAt_some

theorem write_row {w W W1 : World} {fb so : Nat} {F : Fs} {m : M} (h : MS w W fb F so m) (hb : Below W.heap.size W W1) (a : Nat) (ha : a < 4294967296) {bs : List Int} (hlow : ∀ x ∈ bs, 0 ≤ x ∧ x ≤ 255) (hl : bs.length ≤ 4096) {v : Value} (ho : W1.ownsRow W.heap.size 5 1 v bs.length (bs.map fun x => Value.int .u8 x)) :
    ∃ A c, v = .slice A bs.length c ∧ Calls Try.prog 21 #[.pointer (some ⟨so, 0, none⟩), .int .u32 a, .slice A bs.length c] W1 fun e W' => e = .returned (.int .i64 (writeA F m a bs).1) ∧ MS w W' fb (writeA F m a bs).2.1 so (writeA F m a bs).2.2 ∧ KeepT W1 W' := by
  by_cases h0 : 0 < bs.length
  · obtain ⟨g, c, cur, rfl, hg, hblk, hcur⟩ := row_open ho h0
    have hcs : bs.length ≤ c := by
      rcases ho.2 with ⟨_, h0⟩ | ⟨g', c', _, e, _, _, h5, _⟩
      · omega
      · injection e with _ _ e3
        omega
    exact ⟨_, c, rfl, msWriteN h hb a rfl ha hl hlow ⟨hg, hblk.lt⟩ (fun j v hv => by rw [Nat.zero_add, hblk.cell]; exact hcur j v hv) hcs⟩
  · have he : bs = [] := List.eq_nil_of_length_eq_zero (by omega)
    rw [he] at ho ⊢
    rcases ho.2 with ⟨rfl, _⟩ | ⟨g, c, cur, rfl, hg, hblk, _⟩
    · exact ⟨none, 0, rfl, msWrite (h.below hb) a ha ⟨(fun x hx => by cases hx), Nat.le_refl _, fun h => absurd h (by decide)⟩ (by decide)⟩
    · exact ⟨_, c, rfl, msWrite (h.below hb) a ha ⟨(fun x hx => by cases hx), Nat.zero_le _, fun h => absurd h (by decide)⟩ (by decide)⟩
set_option maxRecDepth 100000 in
set_option maxHeartbeats 4000000 in
theorem putWords_any {w W : World} {fb so : Nat} {F : Fs} {m : M} (h : MS w W fb F so m) (a : Nat) (ha : a < 4294967296) {A : Option Addr} {ca : Nat} {ws : List Int} (hl : ws.length ≤ 1024) (hA : WordsA W A ca ws) :
    Calls Try.prog 14 #[.pointer (some ⟨so, 0, none⟩), .int .u32 a, .slice A ws.length ca] W fun e W' => e = .returned (.int .i64 (writeA F m a (bytesL ws)).1) ∧ MS w W' fb (writeA F m a (bytesL ws)).2.1 so (writeA F m a (bytesL ws)).2.2 ∧ KeepT W W' := by
  have HH := Lib.hid h
  have HA := Lib.hid hA
  have hli : ¬ (1024 : Int) < (ws.length : Int) := by omega
  have HBL := Lib.hid (show (bytesL ws).length ≤ 4096 from by rw [bytesL_len]; omega)
  clear h hA
  go_enter Try.func14, Try.ntmps14
  go_wp2_with (fail)
  refine (all_any (by omega) (HA.out.below (Below.refl _ _))).mono ?_
  rintro e W1 ⟨v, rfl, ho, hb⟩
  have HB := Lib.hid hb
  have HW := Lib.hid (write_row HH.out hb a ha (bytesL_low HA.out.low) HBL.out ho)
  clear ho hb
  obtain ⟨A1, c1, rfl, hw⟩ := HW.out
  have HC := Lib.hid hw
  clear hw HW
  go_wp2_with (fail)
  refine HC.out.mono ?_
  rintro e W2 ⟨rfl, h2, h3⟩
  have H2 := Lib.hid h2
  have H3 := Lib.hid ((KeepT.of_below HB.out).trans h3)
  clear h2 h3
  generalize hcode : (writeA F m a (bytesL ws)).1 = code at *
  have HCO := Lib.hid hcode
  clear hcode
  go_wp2
  go_ret
  rw [HCO.out]
  exact ⟨rfl, H2.out, H3.out⟩
end
section
open Go.RowKit Go.Shelf
set_option linter.unusedVariables false
set_option linter.unusedSimpArgs false
attribute [local go_sem] Oper.semAt_some

set_option maxHeartbeats 1000000 in
theorem same_any {w : World} {A B : Option Addr} {ca cb : Nat} (xs ys : List Int) (hx : WordsA w A ca xs) (hy : WordsA w B cb ys) (hxl : xs.length ≤ 1000000) (hyl : ys.length ≤ 1000000) :
    Calls Try.prog 17 #[.slice A xs.length ca, .slice B ys.length cb] w fun e w' => e = .returned (.bool (decide (xs = ys))) ∧ Below w.heap.size w w' := by
  by_cases hlen : xs.length = ys.length
  · go_enter Try.func17, Try.ntmps17
    have hb : ((xs.length : Int) != (ys.length : Int)) = false := by simp [hlen]
    have HL := Lib.hid hlen
    clear hlen
    go_wp2
    go_loopw [5] (fun i wr => ∃ k : Nat, i = .int .i64 (k : Int) ∧ k ≤ xs.length ∧ (∀ j, j < k → xs[j]? = ys[j]?) ∧ Below w.heap.size w wr) (fun i _ => xs.length - (intOf i).toNat)
    case atStart => exact ⟨0, rfl, Nat.zero_le _, fun j hj => absurd hj (Nat.not_lt_zero j), Below.refl _ _⟩
    case round =>
      obtain ⟨k, rfl, hk, hpre, hB⟩ := hrel
      have HP := Lib.hid hpre
      clear hpre
      by_cases hki : k < xs.length
      · have hkb : (k : Int) < (xs.length : Int) := by omega
        have hlen := HL.out
        have hkb2 : (k : Int) < (ys.length : Int) := by omega
        have hxe : xs[k]? = some xs[k] := List.getElem?_eq_getElem hki
        have hye : ys[k]? = some (ys[k]'(by omega)) := List.getElem?_eq_getElem (by omega)
        obtain ⟨b, off, rfl, hbl, c0⟩ := (hx.below hB).at_ hxe
        obtain ⟨b', off', rfl, hbl', d0⟩ := (hy.below hB).at_ hye
        by_cases hxy : xs[k] = ys[k]'(by omega)
        · have hnx : ∀ j, j < k + 1 → xs[j]? = ys[j]? := fun j hj => by
            rcases Nat.lt_or_ge j k with h | h
            · exact HP.out j h
            · have : j = k := by omega
              subst this
              rw [hxe, hye, hxy]
          have HN := Lib.hid hnx
          generalize xs[k] = x at *
          generalize ys[k]'(by omega) = y at *
          have hb1 : (x != y) = false := by simp [hxy]
          clear hnx hxe hye hxy hlen hx hy
          go_wp2_with (go_quiet (fail))
          go_roundw
          case rel => exact ⟨k + 1, by go_num, by omega, HN.out, by first | exact hB | exact belowN hB _ | exact hB.drew⟩
          case measure => simp [intOf]; omega
        · have hne : decide (xs = ys) = false := decide_eq_false fun h => hxy (by subst h; rfl)
          have HNE := Lib.hid hne
          generalize xs[k] = x at *
          generalize ys[k]'(by omega) = y at *
          have hb1 : (x != y) = true := by simp [hxy]
          clear hxe hye hxy hlen hx hy hne
          go_wp2_with (go_quiet (fail))
          go_ret
          exact ⟨by rw [HNE.out]; rfl, by first | exact hB | exact belowN hB _ | exact hB.drew⟩
      · have hlen := HL.out
        have hxy : xs = ys := by
          apply List.ext_getElem?
          intro j
          rcases Nat.lt_or_ge j k with h | h
          · exact HP.out j h
          · rw [List.getElem?_eq_none (by omega), List.getElem?_eq_none (by omega)]
        have hd : decide (xs = ys) = true := decide_eq_true hxy
        have HD := Lib.hid hd
        clear hd hxy hlen
        go_wp2
        go_ret
        exact ⟨by rw [HD.out]; rfl, hB⟩
  · have hne : decide (xs = ys) = false := by simp; intro h; exact hlen (by rw [h])
    rw [hne]
    have hb : ((xs.length : Int) != (ys.length : Int)) = true := by simp; omega
    clear hlen hne hx hy
    go_enter Try.func17, Try.ntmps17
    go_wp2
    go_ret
    exact ⟨rfl, Below.refl _ _⟩
end
section
open Go.RowKit Go.Shelf
set_option linter.unusedVariables false
set_option linter.unusedSimpArgs false
attribute [local go_sem] Oper.semAt_some

def RE (v : Value) : Option (DataW Value × List MemPlace) := some (.held v, [])
/-- The first k of the list's entries stand in the map. -/
structure EntK (W : World) (mb : Nat) (m : M) (k : Nat) : Prop where
  ex : ∃ c, ∃ D : DataW Value, c ≤ k ∧ W.ownsMap Try.prog 3 RE mb c D ∧
    (∀ p x, (p, x) ∈ (list m).take k → Maps.has D (.int .i64 (p : Nat)) = true ∧ ∀ z, D.atKey (.int .i64 (p : Nat)) z = .held x.val) ∧
    ∀ p : Nat, (∀ x, (p, x) ∉ (list m).take k) → Maps.has D (.int .i64 p) = false ∧ ∀ z, D.atKey (.int .i64 p) z = z
set_option maxRecDepth 100000
section
variable {w W W' : World} {fb lb cap : Nat} {F : Fs} {so bt : Nat} {q : Nat → Option Nat} {m : M}
theorem EntK.below {mb k : Nat} (h : EntK W mb m k) (hb : Below W.heap.size W W') : EntK W' mb m k := by
  obtain ⟨c, D, hc, h1, h2⟩ := h.ex
  obtain ⟨es, clock, hb1, hrest⟩ := h1
  exact ⟨c, D, hc, ⟨es, clock, (hb.block _ (Array.getElem?_eq_some_iff.1 hb1).1).trans hb1, hrest⟩, h2⟩
theorem EntK.lt {mb k : Nat} (h : EntK W mb m k) : mb < W.heap.size := by
  obtain ⟨c, D, _, ⟨es, clock, hb1, _⟩, _⟩ := h.ex
  exact (Array.getElem?_eq_some_iff.1 hb1).1
theorem EntK.start (w : World) (m : M) : EntK (w.alloc (.map #[] 0)) w.heap.size m 0 :=
  ⟨0, .map [], Nat.le_refl _, World.ownsMap_made _ _ _ _, fun p x h => by simp at h, fun p _ => ⟨rfl, fun z => rfl⟩⟩
theorem keyP {p : Nat} (hp : p < 64) : keyOf Try.prog 3 (.int .i64 (p : Nat)) = some (.int .i64 (p : Nat)) := key_of ⟨by omega, by omega⟩
theorem EntK.put {mb k : Nat} (h : EntK W mb m k) {y : Nat × E} (hy : (list m)[k]? = some y) :
    ∃ W', (Instr.mapUpdate 110 (.map (some mb)) (.int .i64 (y.1 : Nat)) y.2.val).run Try.prog W = .ok () W' ∧ EntK W' mb m (k + 1) ∧ W.grownBy W' (some mb) := by
  obtain ⟨c, D, hc, h1, h2, h3⟩ := h.ex
  obtain ⟨hp, hx⟩ := list_get hy
  have hk : k < (list m).length := (List.getElem?_eq_some_iff.1 hy).1
  have hll : (list m).length ≤ 64 := listN_len m 64 0
  obtain ⟨W', hrun, hown, hg⟩ := h1.update keyI Try.underlying110 (by unfold maxLen; omega) (keyP hp) (val := y.2.val) (d := .held y.2.val) (ps := []) rfl
  have hI := h1.isMap
  have htk : (list m).take (k + 1) = (list m).take k ++ [y] := by rw [List.take_add_one, hy]; rfl
  refine ⟨W', hrun, ⟨c + 1, _, by omega, hown, fun p x hpx => ?_, fun p hno => ?_⟩, hg⟩
  · by_cases e : p = y.1
    · subst e
      have hxx : x = y.2 := by
        have := (mem_listN6 m 64 0 (y.1, x) (List.mem_of_mem_take hpx)).2.2
        rw [hx] at this
        injection this with this
        exact this.symm
      subst hxx
      exact ⟨Maps.has_put_same hI (by trivial) _, fun z => Maps.atKey_put_same hI (by trivial) _ _⟩
    · have hne : (Lit.int .i64 (p : Nat)) ≠ Lit.int .i64 (y.1 : Nat) := fun e2 => by simp only [Lit.int.injEq, true_and] at e2; omega
      rw [Maps.has_put_other hne]
      rw [htk, List.mem_append] at hpx
      rcases hpx with hpx | hpx
      · exact ⟨(h2 p x hpx).1, fun z => (Maps.atKey_put_other hne _ _).trans ((h2 p x hpx).2 z)⟩
      · rw [List.mem_singleton] at hpx
        exact absurd (congrArg Prod.fst hpx) e
  · have e : p ≠ y.1 := fun e => hno y.2 (by rw [htk, e]; simp)
    have hne : (Lit.int .i64 (p : Nat)) ≠ Lit.int .i64 (y.1 : Nat) := fun e2 => by simp only [Lit.int.injEq, true_and] at e2; omega
    have h4 := h3 p (fun x hx => hno x (by rw [htk]; exact List.mem_append_left _ hx))
    rw [Maps.has_put_other hne]
    exact ⟨h4.1, fun z => (Maps.atKey_put_other hne _ _).trans (h4.2 z)⟩
/-- The map of all entries. -/
def EntAt (W : World) (mb : Nat) (m : M) : Prop := EntK W mb m 64
theorem EntK.all {mb k : Nat} (h : EntK W mb m k) (hk : k = (list m).length) : EntAt W mb m := by
  obtain ⟨c, D, hc, h1, h2, h3⟩ := h.ex
  have hll : (list m).length ≤ 64 := listN_len m 64 0
  have e : (list m).take 64 = (list m).take k := by rw [List.take_of_length_le (by omega), List.take_of_length_le (by omega)]
  exact ⟨c, D, by omega, h1, by rw [e]; exact h2, by rw [e]; exact h3⟩
theorem zeroE (w : World) : (zeroValue 71).run Try.prog w = .ok E.zero.val w := by kernel_rfl
/-- What the map tells at a page. -/
theorem EntAt.look {mb : Nat} (h : EntAt W mb m) {p : Nat} (hp : p < 64) :
    (Instr.lookup 110 (.map (some mb)) (.int .i64 (p : Nat)) true).run Try.prog W = .ok (.tuple #[((m p).getD E.zero).val, .bool (m p).isSome]) W := by
  obtain ⟨c, D, hc, h1, h2, h3⟩ := h.ex
  have hll : (list m).length ≤ 64 := listN_len m 64 0
  rw [List.take_of_length_le hll] at h2 h3
  obtain ⟨v, ps, hrun, hv⟩ := h1.look_ok keyI Try.underlying110 (zeroE W) (zd := .held E.zero.val) (zp := []) rfl (keyP hp)
  rw [hrun]
  have hv' : D.atKey (.int .i64 (p : Nat)) (.held E.zero.val) = .held v := by
    unfold RE at hv
    injection hv with hv
    injection hv with hv _
    exact hv.symm
  cases hm : m p with
  | some x =>
    have hin : (p, x) ∈ list m := list_mem6 m 64 0 p x (Nat.zero_le _) (by omega) hm
    obtain ⟨g1, g2⟩ := h2 p x hin
    rw [g2] at hv'
    injection hv' with hv'
    rw [g1, ← hv']; rfl
  | none =>
    obtain ⟨g1, g2⟩ := h3 p (fun x hx => by
      have := (mem_listN6 m 64 0 (p, x) hx).2.2
      rw [hm] at this
      cases this)
    rw [g2] at hv'
    injection hv' with hv'
    rw [g1, ← hv']; rfl
theorem fsList (hf : FS W fb lb cap F so bt q m) :
    Calls Try.prog 65 #[.pointer (some ⟨so, 0, none⟩)] W fun e W' => ∃ A c, e = .returned (.slice A (list m).length c) ∧ RowB W' A 75 6 (listR m) ∧ Below W.heap.size W W' := by
  refine (spList_any hf).mono ?_
  rintro e W' ⟨v, rfl, hrow, _, hb⟩
  have hfl : (list m).flatMap mapCells = (listR m).flatten := by unfold listR; rw [List.flatMap_def]
  rw [hfl, ← listR_len] at hrow
  obtain ⟨A, c, rfl, hR, _⟩ := rows_own (fun r hr => by unfold listR at hr; rw [List.mem_map] at hr; obtain ⟨y, _, rfl⟩ := hr; rfl) hrow
  rw [listR_len]
  refine ⟨A, c, rfl, ⟨hR, fun i hi => ?_⟩, hb⟩
  rcases hrow.2 with ⟨_, h0⟩ | ⟨g, cap, cur, e, _, hg, _⟩
  · omega
  · injection e with e1 _ _
    exact ⟨g, 0, cur, e1, hg⟩
theorem RowB.below {A : Option Addr} {t : TypeId} {k : Nat} {rows : List (List Value)} (h : RowB W A t k rows) (hb : Below W.heap.size W W') : RowB W' A t k rows :=
  ⟨RowsAt.below h.r hb, fun i hi => by
    obtain ⟨g, off, cs, hA, hblk⟩ := h.b i hi
    exact ⟨g, off, cs, hA, hblk.below hb hblk.lt⟩⟩
theorem RowB.grown {A : Option Addr} {t : TypeId} {k mb : Nat} {rows : List (List Value)} (h : RowB W A t k rows) (hg : W.grownBy W' (some mb)) (hm : ∃ es clock, W.heap[mb]? = some (.map es clock)) : RowB W' A t k rows := by
  have hbb : ∀ g cs, Blk W g t cs → Blk W' g t cs := fun g cs hb => hb.grown hg (fun e => by
    injection e with e
    subst e
    obtain ⟨es, cl, hm⟩ := hm
    unfold Blk at hb
    rw [hm] at hb
    cases hb)
  refine ⟨fun i r hr => ?_, fun i hi => ?_⟩
  · obtain ⟨g, off, cs, hA, hb⟩ := h.b i (List.getElem?_eq_some_iff.1 hr).1
    obtain ⟨g', off', hA', hlt, hc⟩ := h.r i r hr
    rw [hA] at hA'
    injection hA' with e
    injection e with e1 e2
    subst e1 e2
    have hb' := hbb g cs hb
    exact ⟨g, off, hA, hb'.lt, fun j v hv => by rw [hb'.cell, ← hb.cell]; exact hc j v hv⟩
  · obtain ⟨g, off, cs, hA, hb⟩ := h.b i hi
    exact ⟨g, off, cs, hA, hbb g cs hb⟩
theorem EntK.isMap {mb k : Nat} (h : EntK W mb m k) : ∃ es clock, W.heap[mb]? = some (.map es clock) := by
  obtain ⟨c, D, _, ⟨es, clock, hb1, _⟩, _⟩ := h.ex
  exact ⟨es, clock, hb1⟩
set_option maxRecDepth 100000 in
set_option maxHeartbeats 4000000 in
theorem entries_any (h : FS W fb lb cap F so bt q m) :
    Calls Try.prog 49 #[.pointer (some ⟨so, 0, none⟩)] W fun e W' => ∃ mb, e = .returned (.map (some mb)) ∧ EntAt W' mb m ∧ Below W.heap.size W W' := by
  have hmm := @run_makeMap Try.prog
  have HH := Lib.hid h
  clear h
  go_enter Try.func49, Try.ntmps49
  go_wp2_with (fail)
  have HE0 := Lib.hid (EntK.start W m)
  have HB0 := Lib.hid (bl_new (Below.refl W.heap.size W) (.map #[] 0))
  refine (fsList (HH.out.below HB0.out)).mono ?_
  rintro e W1 ⟨A, c, rfl, hrb, hb⟩
  have hll : (list m).length ≤ 64 := listN_len m 64 0
  have HRB := Lib.hid hrb
  have HE := Lib.hid (HE0.out.below hb)
  have HB := Lib.hid (bl_step HB0.out hb)
  obtain ⟨L, hL⟩ : ∃ L, L = (list m).length := ⟨_, rfl⟩
  rw [← hL] at hll ⊢
  have HLL := Lib.hid hL
  clear hrb hb hL HE0 HB0 HH
  generalize hmb : W.heap.size = mb at *
  have HMB := Lib.hid hmb
  clear hmb
  go_wp2_with (fail)
  go_loopw [5, 10] (fun _ i wr => ∃ k : Nat, i = .int .i64 (k : Int) ∧ k ≤ L ∧ Hid (EntK wr mb m k ∧ Below W.heap.size W wr ∧ RowB wr A 75 6 (listR m))) (fun _ i _ => L - (intOf i).toNat)
  case atStart => exact ⟨0, rfl, Nat.zero_le _, Lib.hid ⟨HE.out, by rw [HMB.out]; exact HB.out, HRB.out⟩⟩
  case round =>
    clear HRB HE HB
    obtain ⟨k, rfl, hk, HQ⟩ := hrel
    by_cases hkl : k < L
    · have hki : (k : Int) < (L : Int) := by omega
      obtain ⟨y, hy⟩ : ∃ y, (list m)[k]? = some y := ⟨_, List.getElem?_eq_getElem (by rw [← HLL.out]; exact hkl)⟩
      have hyr : (listR m)[k]? = some (mapCells y) := by unfold listR; rw [List.getElem?_map, hy]; rfl
      obtain ⟨b1, o1, rfl, hl1, hr1⟩ := HQ.out.2.2.r k _ hyr
      obtain ⟨p, f, mw, ms, mc, md⟩ := y
      have c0 : wr.cell? ⟨b1, o1 + k * 6, none⟩ = some (.int .i64 (p : Nat)) := hr1 0 _ rfl
      have c1 : wr.cell? ⟨b1, o1 + k * 6 + 1, none⟩ = some (.int .i64 f) := hr1 1 _ rfl
      have c2 : wr.cell? ⟨b1, o1 + k * 6 + 2, none⟩ = some (.bool mw) := hr1 2 _ rfl
      have c3 : wr.cell? ⟨b1, o1 + k * 6 + 3, none⟩ = some (.bool ms) := hr1 3 _ rfl
      have c4 : wr.cell? ⟨b1, o1 + k * 6 + 4, none⟩ = some (.bool mc) := hr1 4 _ rfl
      have c5 : wr.cell? ⟨b1, o1 + k * 6 + 5, none⟩ = some (.bool md) := hr1 5 _ rfl
      have hbn := bl_new (Below.refl wr.heap.size wr) (.cells #[.int .i64 (p : Nat), .int .i64 f, .bool mw, .bool ms, .bool mc, .bool md] 75)
      obtain ⟨W2, hrun, hE2, hg2⟩ := (HQ.out.1.below hbn).put hy
      have hrun : (Instr.mapUpdate 110 (.map (some mb)) (.int .i64 (p : Nat)) (.agg #[.int .i64 f, .bool mw, .bool ms, .bool mc, .bool md])).run Try.prog (wr.alloc (.cells #[.int .i64 (p : Nat), .int .i64 f, .bool mw, .bool ms, .bool mc, .bool md] 75)) = .ok () W2 := hrun
      have HE2 := Lib.hid hE2
      have HG2 := Lib.hid hg2
      have HR2 := Lib.hid (HQ.out.2.2.below hbn)
      have HB2 := Lib.hid (bl_step HQ.out.2.1 hbn)
      clear hE2 hg2 hbn hyr hr1 hy
      have HM2 := Lib.hid (show ∃ es clock, (wr.alloc (.cells #[.int .i64 (p : Nat), .int .i64 f, .bool mw, .bool ms, .bool mc, .bool md] 75)).heap[mb]? = some (.map es clock) from (HQ.out.1.below (bl_new (Below.refl wr.heap.size wr) _)).isMap)
      go_wp2
      refine ⟨⟨k + 1, by go_num, by omega, Lib.hid ⟨HE2.out, ?_, HR2.out.grown HG2.out HM2.out⟩⟩, by simp [intOf]; omega⟩
      exact HB2.out.grown HG2.out HB2.out.size (fun r e => by injection e with e; rw [← e, HMB.out]; exact Nat.le_refl _)
    · have hki : ¬ (k : Int) < (L : Int) := by omega
      have HEA := Lib.hid (HQ.out.1.all (by rw [← HLL.out]; omega))
      go_wp2
      go_ret
      exact ⟨_, rfl, HEA.out, HQ.out.2.1⟩
end
end
section
open Go.RowKit Go.Shelf
set_option linter.unusedVariables false
set_option linter.unusedSimpArgs false
attribute [local go_sem] Oper.semAt_some
set_option maxRecDepth 100000

theorem EntK.cell {W : World} {mb : Nat} {m : M} {k p : Nat} {t : TypeId} {cs : Array Value} (h : EntK W mb m k) (hb : Blk W p t cs) (u : Value) : EntK (W.setCell ⟨p, 0, none⟩ u) mb m k := by
  obtain ⟨c, D, hc, h1, h2⟩ := h.ex
  obtain ⟨es, clock, hm⟩ := h.isMap
  refine ⟨c, D, hc, h1.setCell (fun e => ?_) u, h2⟩
  have e : mb = p := e
  subst e
  unfold Blk at hb
  rw [hm] at hb
  cases hb
/-- Two maps lie, behind two boxes. -/
structure Ents (W : World) (p1 p2 : Nat) (m m' : M) : Prop where
  a : ∃ mb, Blk W p1 110 #[.map (some mb)] ∧ EntAt W mb m
  b : ∃ mb, Blk W p2 110 #[.map (some mb)] ∧ EntAt W mb m'
theorem Ents.below {W W' : World} {p1 p2 : Nat} {m m' : M} (h : Ents W p1 p2 m m') (hb : Below W.heap.size W W') : Ents W' p1 p2 m m' := by
  obtain ⟨⟨x, h1, h2⟩, ⟨y, h3, h4⟩⟩ := h
  exact ⟨⟨x, h1.below hb h1.lt, EntK.below h2 hb⟩, ⟨y, h3.below hb h3.lt, EntK.below h4 hb⟩⟩

/-- The library's steps through a held region, the operation written out. -/
theorem wpAnyH_takeD {P : Program} {ops : Array Oper} {Q : Exit → Act → World → Prop} {md : Region.Mode} {S : World → Prop} {i : Nat} {oi : Oper} {rest : List Oper} {v : Value} {fuel : Nat} {listed : Array Bool} {a : Act} {w : World} (hi : ops.toList.drop i = oi :: rest)
    (hs : Region.noSelect ops = true) (hf : Region.free md ops listed i = true) (hr : (Region.ready md ops listed).contains i = true)
    (hQ : ∀ c a w, Q (.panic c) (a.put oi.dst v) w → Q (.panic c) a w) (hy : YieldsIf P ops S oi v a) (hS : S w)
    (h : wpAnyH P md ops Q S fuel (listed.setIfInBounds i true) (a.put oi.dst v) w) : wpAnyH P md ops Q S (fuel + 1) listed a w :=
  wpAnyH_take (getElem?_of_drop hi) hs hf hr hQ hy hS h
theorem AllReadyH.consD {P : Program} {ops : Array Oper} {Q : Exit → Act → World → Prop} {md : Region.Mode} {S : World → Prop} {fuel : Nat} {listed : Array Bool} {a : Act} {w : World} {i : Nat} {o : Oper} {rest : List Oper} {rs : List Nat} (ho : ops.toList.drop i = o :: rest)
    (h : ∀ K' : Act → World → Prop, Shut (∀ a w, S w → (S w → wpAnyH P md ops Q S fuel (listed.setIfInBounds i true) a w) → K' a w) → if Region.wanted o (yielded ops a.tmps) = true then Oper.wp P o a w K' Q else K' (a.put o.dst undef) w)
    (hs : AllReadyH P md ops Q S fuel listed a w rs) : AllReadyH P md ops Q S fuel listed a w (i :: rs) := AllReadyH.cons (getElem?_of_drop ho) h hs
def eqS (l l' : List Int) : Bool := (strOfNums l).toList == (strOfNums l').toList
def sameP (F : Fs) (m : M) (F' : Fs) (m' : M) (p : Nat) : Bool := if (m p).isSome = (m' p).isSome ∧ ((m p).getD E.zero).w = ((m' p).getD E.zero).w ∧ ((m p).getD E.zero).s = ((m' p).getD E.zero).s then eqS (pageP F m p) (pageP F' m' p) else false
theorem equal_any {W : World} {b1 b2 : Nat} {v1 v2 : Value} {l1 l2 : List Int} (h1 : W.ownsRow b1 5 1 v1 l1.length (l1.map fun x => Value.int .u8 x)) (h2 : W.ownsRow b2 5 1 v2 l2.length (l2.map fun x => Value.int .u8 x)) :
    Calls Try.prog 51 #[v1, v2] W fun e W' => e = .returned (.bool (eqS l1 l2)) ∧ Below W.heap.size W W' := by
  have c1 := conv_rowU h1
  have c2 := conv_rowU h2
  have c3 := conv_rowU (w := W.drew) h1
  have c4 := conv_rowU (w := W.drew) h2
  unfold eqS
  generalize strOfNums l1 = s1 at *
  generalize strOfNums l2 = s2 at *
  clear h1 h2
  go_enter Try.func51, Try.ntmps51
  go_wp2
  go_ret
  first
    | exact ⟨rfl, Below.refl _ _⟩
    | exact ⟨rfl, (Below.refl _ _).drew⟩
section
variable {w W W' : World} {fb lb cap fb' lb' cap' : Nat} {F F' : Fs} {so bt so' bt' : Nat} {q q' : Nat → Option Nat} {m m' : M}
set_option maxHeartbeats 4000000 in
theorem first1_any (h : FS W fb lb cap F so bt q m) (hok : SpOk F m) (h' : FS W fb' lb' cap' F' so' bt' q' m') (hok' : SpOk F' m') {p1 p2 b1 b2 : Nat} (he : Ents W p1 p2 m m') (hx : Blk W b1 24 #[.pointer (some ⟨so, 0, none⟩)]) (hy : Blk W b2 24 #[.pointer (some ⟨so', 0, none⟩)]) (p : Nat) (hp : p < 64) :
    Calls Try.prog 50 #[.int .i64 (p : Nat), .pointer (some ⟨p1, 0, none⟩), .pointer (some ⟨p2, 0, none⟩), .pointer (some ⟨b1, 0, none⟩), .pointer (some ⟨b2, 0, none⟩)] W fun e W' => e = .returned (.bool (sameP F m F' m' p)) ∧ Below W.heap.size W W' := by
  obtain ⟨⟨ma, hpa, hma⟩, ⟨mb, hpb, hmb⟩⟩ := he
  have HPG := Lib.hid (fun W1 (hb : Below W.heap.size W W1) => spPage_any (h.below hb) hok p hp)
  have HPG' := Lib.hid (fun W1 (hb : Below W.heap.size W W1) => spPage_any (h'.below hb) hok' p hp)
  have la := hma.look hp
  have hsame : sameP F m F' m' p = if (m p).isSome = (m' p).isSome ∧ ((m p).getD E.zero).w = ((m' p).getD E.zero).w ∧ ((m p).getD E.zero).s = ((m' p).getD E.zero).s then eqS (pageP F m p) (pageP F' m' p) else false := rfl
  have LB := Lib.hid (fun W1 (hb : Below W.heap.size W W1) => EntAt.look (EntK.below hmb hb) hp)
  generalize (m p).isSome = is1 at *
  generalize (m' p).isSome = is2 at *
  generalize (m p).getD E.zero = x at *
  obtain ⟨f, mw, ms, mc, md⟩ := x
  generalize (m' p).getD E.zero = y at *
  obtain ⟨f', mw', ms', mc', md'⟩ := y
  simp only at hsame
  have hb1 := bl_new (Below.refl W.heap.size W) (.cells #[.int .i64 f, .bool mw, .bool ms, .bool mc, .bool md] 71)
  have hb2 := bl_new hb1 (.cells #[.int .i64 f', .bool mw', .bool ms', .bool mc', .bool md'] 71)
  have lb : (Instr.lookup 110 (.map (some mb)) (.int .i64 (p : Nat)) true).run Try.prog (W.alloc (.cells #[.int .i64 f, .bool mw, .bool ms, .bool mc, .bool md] 71)) = .ok (.tuple #[.agg #[.int .i64 f', .bool mw', .bool ms', .bool mc', .bool md'], .bool is2]) (W.alloc (.cells #[.int .i64 f, .bool mw, .bool ms, .bool mc, .bool md] 71)) := LB.out _ hb1
  replace la : (Instr.lookup 110 (.map (some ma)) (.int .i64 (p : Nat)) true).run Try.prog W = .ok (.tuple #[.agg #[.int .i64 f, .bool mw, .bool ms, .bool mc, .bool md], .bool is1]) W := la
  have z1 := (Blk.new W 71 #[.int .i64 f, .bool mw, .bool ms, .bool mc, .bool md]).alloc (.cells #[.int .i64 f', .bool mw', .bool ms', .bool mc', .bool md'] 71)
  have z2 := Blk.new (W.alloc (.cells #[.int .i64 f, .bool mw, .bool ms, .bool mc, .bool md] 71)) 71 #[.int .i64 f', .bool mw', .bool ms', .bool mc', .bool md']
  rw [World.size_alloc] at z2
  have x2 := hx.below hb2 hx.lt
  have y2 := hy.below hb2 hy.lt
  have HZ := Lib.hid (show Blk ((W.alloc (.cells #[.int .i64 f, .bool mw, .bool ms, .bool mc, .bool md] 71)).alloc (.cells #[.int .i64 f', .bool mw', .bool ms', .bool mc', .bool md'] 71)) W.heap.size 71 #[.int .i64 f, .bool mw, .bool ms, .bool mc, .bool md] ∧ _ ∧ _ ∧ _ ∧ _ from ⟨z1, z2, x2, y2, hb2⟩)
  have cpa := hpa.cell 0
  have cpb := hpb.cell 0
  simp only [List.getElem?_toArray, List.getElem?_cons_zero] at cpa cpb
  have lpa := hpa.lt
  have lpb := hpb.lt
  have HSM := Lib.hid hsame
  clear h hok h' hok' hma hmb hpa hpb hx hy hsame hb1 hb2 z1 z2 x2 y2 LB
  go_enter Try.func50, Try.ntmps50
  go_upto_region 3 with (fail)
  obtain ⟨W2, hW2⟩ : ∃ W2, (W.alloc (.cells #[.int .i64 f, .bool mw, .bool ms, .bool mc, .bool md] 71)).alloc (.cells #[.int .i64 f', .bool mw', .bool ms', .bool mc', .bool md'] 71) = W2 := ⟨_, rfl⟩
  rw [hW2] at HZ ⊢
  clear hW2 la lb cpa cpb lpa lpb
  have HBW := Lib.hid HZ.out.2.2.2.2
  have HFX := Lib.hid (fun W1 (hb : Below W2.heap.size W2 W1) => (show W1.cell? ⟨W.heap.size, 1, none⟩ = some (.bool mw) ∧ W1.cell? ⟨W.heap.size, 2, none⟩ = some (.bool ms) ∧ W1.cell? ⟨W.heap.size + 1, 1, none⟩ = some (.bool mw') ∧ W1.cell? ⟨W.heap.size + 1, 2, none⟩ = some (.bool ms') ∧ W1.cell? ⟨b1, 0, none⟩ = some (.pointer (some ⟨so, 0, none⟩)) ∧ W1.cell? ⟨b2, 0, none⟩ = some (.pointer (some ⟨so', 0, none⟩)) from by
    obtain ⟨z1, z2, z3, z4, _⟩ := HZ.out
    exact ⟨(z1.below hb z1.lt).cell 1, (z1.below hb z1.lt).cell 2, (z2.below hb z2.lt).cell 1, (z2.below hb z2.lt).cell 2, (z3.below hb z3.lt).cell 0, (z4.below hb z4.lt).cell 0⟩))
  by_cases hi : is1 = is2
  case neg =>
    have hbq : (is1 == is2) = false := by simp [hi]
    have HR := Lib.hid (show sameP F m F' m' p = false from HSM.out.trans (if_neg (fun e => hi e.1)))
    refine wp_region_held_drew (S := fun w' => Below W2.heap.size W2 w') (by kernel_rfl) ((Below.refl W2.heap.size W2).drew) (fun hS => ?_)
    refine wpAnyH_takeD (i := 0) (v := ?_) rfl (by kernel_rfl) (by kernel_rfl) (by kernel_rfl) (fun _ _ _ h => h) (Or.inl ⟨by kernel_rfl, ?_⟩) hS ?_
    rotate_left 1
    · intro w hS
      go_simp
      all_goals with_reducible rfl
    try simp only [Act.put, List.setIfInBounds_toArray, List.set_cons_zero, List.set_cons_succ]
    refine wpAnyH_takeD (i := 1) (v := ?_) rfl (by kernel_rfl) (by kernel_rfl) (by kernel_rfl) (fun _ _ _ h => h) (Or.inl ⟨by kernel_rfl, ?_⟩) hS ?_
    rotate_left 1
    · intro w hS
      go_simp
      all_goals with_reducible rfl
    try simp only [Act.put, List.setIfInBounds_toArray, List.set_cons_zero, List.set_cons_succ]
    refine wpAnyH_takeD (i := 2) (v := ?_) rfl (by kernel_rfl) (by kernel_rfl) (by kernel_rfl) (fun _ _ _ h => h) (Or.inl ⟨by kernel_rfl, ?_⟩) hS ?_
    rotate_left 1
    · intro w hS
      go_simp
      all_goals with_reducible rfl
    try simp only [Act.put, List.setIfInBounds_toArray, List.set_cons_zero, List.set_cons_succ]
    refine wpAnyH_takeD (i := 3) (v := ?_) rfl (by kernel_rfl) (by kernel_rfl) (by kernel_rfl) (fun _ _ _ h => h) (Or.inl ⟨by kernel_rfl, ?_⟩) hS ?_
    rotate_left 1
    · intro w hS
      go_simp
      all_goals with_reducible rfl
    try simp only [Act.put, List.setIfInBounds_toArray, List.set_cons_zero, List.set_cons_succ]
    refine wpAnyH_takeD (i := 4) (v := undef) rfl (by kernel_rfl) (by kernel_rfl) (by kernel_rfl) (fun _ _ _ h => h) (Or.inr ⟨by kernel_rfl, rfl⟩) hS ?_
    try simp only [Act.put, List.setIfInBounds_toArray, List.set_cons_zero, List.set_cons_succ]
    refine wpAnyH_takeD (i := 5) (v := undef) rfl (by kernel_rfl) (by kernel_rfl) (by kernel_rfl) (fun _ _ _ h => h) (Or.inr ⟨by kernel_rfl, rfl⟩) hS ?_
    try simp only [Act.put, List.setIfInBounds_toArray, List.set_cons_zero, List.set_cons_succ]
    refine wpAnyH_takeD (i := 6) (v := undef) rfl (by kernel_rfl) (by kernel_rfl) (by kernel_rfl) (fun _ _ _ h => h) (Or.inr ⟨by kernel_rfl, rfl⟩) hS ?_
    try simp only [Act.put, List.setIfInBounds_toArray, List.set_cons_zero, List.set_cons_succ]
    refine wpAnyH_takeD (i := 7) (v := undef) rfl (by kernel_rfl) (by kernel_rfl) (by kernel_rfl) (fun _ _ _ h => h) (Or.inr ⟨by kernel_rfl, rfl⟩) hS ?_
    try simp only [Act.put, List.setIfInBounds_toArray, List.set_cons_zero, List.set_cons_succ]
    refine wpAnyH_takeD (i := 8) (v := undef) rfl (by kernel_rfl) (by kernel_rfl) (by kernel_rfl) (fun _ _ _ h => h) (Or.inr ⟨by kernel_rfl, rfl⟩) hS ?_
    try simp only [Act.put, List.setIfInBounds_toArray, List.set_cons_zero, List.set_cons_succ]
    refine wpAnyH_takeD (i := 9) (v := ?_) rfl (by kernel_rfl) (by kernel_rfl) (by kernel_rfl) (fun _ _ _ h => h) (Or.inl ⟨by kernel_rfl, ?_⟩) hS ?_
    rotate_left 1
    · intro w hS
      go_simp
      all_goals with_reducible rfl
    try simp only [Act.put, List.setIfInBounds_toArray, List.set_cons_zero, List.set_cons_succ]
    refine wpAnyH_takeD (i := 10) (v := ?_) rfl (by kernel_rfl) (by kernel_rfl) (by kernel_rfl) (fun _ _ _ h => h) (Or.inl ⟨by kernel_rfl, ?_⟩) hS ?_
    rotate_left 1
    · intro w hS
      go_simp
      all_goals with_reducible rfl
    try simp only [Act.put, List.setIfInBounds_toArray, List.set_cons_zero, List.set_cons_succ]
    refine wpAnyH_takeD (i := 11) (v := undef) rfl (by kernel_rfl) (by kernel_rfl) (by kernel_rfl) (fun _ _ _ h => h) (Or.inr ⟨by kernel_rfl, rfl⟩) hS ?_
    try simp only [Act.put, List.setIfInBounds_toArray, List.set_cons_zero, List.set_cons_succ]
    refine wpAnyH_takeD (i := 12) (v := undef) rfl (by kernel_rfl) (by kernel_rfl) (by kernel_rfl) (fun _ _ _ h => h) (Or.inr ⟨by kernel_rfl, rfl⟩) hS ?_
    try simp only [Act.put, List.setIfInBounds_toArray, List.set_cons_zero, List.set_cons_succ]
    refine wpAnyH_takeD (i := 13) (v := undef) rfl (by kernel_rfl) (by kernel_rfl) (by kernel_rfl) (fun _ _ _ h => h) (Or.inr ⟨by kernel_rfl, rfl⟩) hS ?_
    try simp only [Act.put, List.setIfInBounds_toArray, List.set_cons_zero, List.set_cons_succ]
    refine wpAnyH_takeD (i := 14) (v := undef) rfl (by kernel_rfl) (by kernel_rfl) (by kernel_rfl) (fun _ _ _ h => h) (Or.inr ⟨by kernel_rfl, rfl⟩) hS ?_
    try simp only [Act.put, List.setIfInBounds_toArray, List.set_cons_zero, List.set_cons_succ]
    refine wpAnyH_takeD (i := 15) (v := undef) rfl (by kernel_rfl) (by kernel_rfl) (by kernel_rfl) (fun _ _ _ h => h) (Or.inr ⟨by kernel_rfl, rfl⟩) hS ?_
    try simp only [Act.put, List.setIfInBounds_toArray, List.set_cons_zero, List.set_cons_succ]
    refine wpAnyH_takeD (i := 16) (v := ?_) rfl (by kernel_rfl) (by kernel_rfl) (by kernel_rfl) (fun _ _ _ h => h) (Or.inl ⟨by kernel_rfl, ?_⟩) hS ?_
    rotate_left 1
    · intro w hS
      go_simp
      all_goals with_reducible rfl
    try simp only [Act.put, List.setIfInBounds_toArray, List.set_cons_zero, List.set_cons_succ]
    refine wpAnyH_takeD (i := 17) (v := ?_) rfl (by kernel_rfl) (by kernel_rfl) (by kernel_rfl) (fun _ _ _ h => h) (Or.inl ⟨by kernel_rfl, ?_⟩) hS ?_
    rotate_left 1
    · intro w hS
      go_simp
      all_goals with_reducible rfl
    try simp only [Act.put, List.setIfInBounds_toArray, List.set_cons_zero, List.set_cons_succ]
    refine wpAnyH_takeD (i := 18) (v := undef) rfl (by kernel_rfl) (by kernel_rfl) (by kernel_rfl) (fun _ _ _ h => h) (Or.inr ⟨by kernel_rfl, rfl⟩) hS ?_
    try simp only [Act.put, List.setIfInBounds_toArray, List.set_cons_zero, List.set_cons_succ]
    refine wpAnyH_takeD (i := 19) (v := undef) rfl (by kernel_rfl) (by kernel_rfl) (by kernel_rfl) (fun _ _ _ h => h) (Or.inr ⟨by kernel_rfl, rfl⟩) hS ?_
    try simp only [Act.put, List.setIfInBounds_toArray, List.set_cons_zero, List.set_cons_succ]
    refine wpAnyH_takeD (i := 20) (v := undef) rfl (by kernel_rfl) (by kernel_rfl) (by kernel_rfl) (fun _ _ _ h => h) (Or.inr ⟨by kernel_rfl, rfl⟩) hS ?_
    try simp only [Act.put, List.setIfInBounds_toArray, List.set_cons_zero, List.set_cons_succ]
    refine wpAnyH_takeD (i := 21) (v := undef) rfl (by kernel_rfl) (by kernel_rfl) (by kernel_rfl) (fun _ _ _ h => h) (Or.inr ⟨by kernel_rfl, rfl⟩) hS ?_
    try simp only [Act.put, List.setIfInBounds_toArray, List.set_cons_zero, List.set_cons_succ]
    refine wpAnyH_takeD (i := 22) (v := undef) rfl (by kernel_rfl) (by kernel_rfl) (by kernel_rfl) (fun _ _ _ h => h) (Or.inr ⟨by kernel_rfl, rfl⟩) hS ?_
    try simp only [Act.put, List.setIfInBounds_toArray, List.set_cons_zero, List.set_cons_succ]
    refine wpAnyH_takeD (i := 23) (v := undef) rfl (by kernel_rfl) (by kernel_rfl) (by kernel_rfl) (fun _ _ _ h => h) (Or.inr ⟨by kernel_rfl, rfl⟩) hS ?_
    try simp only [Act.put, List.setIfInBounds_toArray, List.set_cons_zero, List.set_cons_succ]
    refine wpAnyH_takeD (i := 24) (v := undef) rfl (by kernel_rfl) (by kernel_rfl) (by kernel_rfl) (fun _ _ _ h => h) (Or.inr ⟨by kernel_rfl, rfl⟩) hS ?_
    try simp only [Act.put, List.setIfInBounds_toArray, List.set_cons_zero, List.set_cons_succ]
    refine wpAnyH_takeD (i := 25) (v := ?_) rfl (by kernel_rfl) (by kernel_rfl) (by kernel_rfl) (fun _ _ _ h => h) (Or.inl ⟨by kernel_rfl, ?_⟩) hS ?_
    rotate_left 1
    · intro w hS
      go_simp
      all_goals with_reducible rfl
    try simp only [Act.put, List.setIfInBounds_toArray, List.set_cons_zero, List.set_cons_succ]
    refine wpAnyH_takeD (i := 26) (v := ?_) rfl (by kernel_rfl) (by kernel_rfl) (by kernel_rfl) (fun _ _ _ h => h) (Or.inl ⟨by kernel_rfl, ?_⟩) hS ?_
    rotate_left 1
    · intro w hS
      go_simp
      all_goals with_reducible rfl
    try simp only [Act.put, List.setIfInBounds_toArray, List.set_cons_zero, List.set_cons_succ]
    refine wpAnyH_done (by kernel_rfl) ?_ _
    have HSS := Lib.hid (bl_step HBW.out hS)
    clear hS
    go_wp2
    go_ret
    rw [HR.out]
    exact ⟨rfl, HSS.out⟩
  subst hi
  by_cases hw : mw = mw'
  case neg =>
    have hbq : (mw == mw') = false := by simp [hw]
    have HR := Lib.hid (show sameP F m F' m' p = false from HSM.out.trans (if_neg (fun e => hw e.2.1)))
    refine wp_region_held_drew (S := fun w' => Below W2.heap.size W2 w') (by kernel_rfl) ((Below.refl W2.heap.size W2).drew) (fun hS => ?_)
    refine wpAnyH_takeD (i := 0) (v := ?_) rfl (by kernel_rfl) (by kernel_rfl) (by kernel_rfl) (fun _ _ _ h => h) (Or.inl ⟨by kernel_rfl, ?_⟩) hS ?_
    rotate_left 1
    · intro w hS
      go_simp
      all_goals with_reducible rfl
    try simp only [Act.put, List.setIfInBounds_toArray, List.set_cons_zero, List.set_cons_succ]
    refine wpAnyH_takeD (i := 1) (v := ?_) rfl (by kernel_rfl) (by kernel_rfl) (by kernel_rfl) (fun _ _ _ h => h) (Or.inl ⟨by kernel_rfl, ?_⟩) hS ?_
    rotate_left 1
    · intro w hS
      go_simp
      all_goals with_reducible rfl
    try simp only [Act.put, List.setIfInBounds_toArray, List.set_cons_zero, List.set_cons_succ]
    refine wpAnyH_takeD (i := 2) (v := ?_) rfl (by kernel_rfl) (by kernel_rfl) (by kernel_rfl) (fun _ _ _ h => h) (Or.inl ⟨by kernel_rfl, ?_⟩) hS ?_
    rotate_left 1
    · intro w hS
      go_simp
      all_goals with_reducible rfl
    try simp only [Act.put, List.setIfInBounds_toArray, List.set_cons_zero, List.set_cons_succ]
    refine wpAnyH_takeD (i := 3) (v := ?_) rfl (by kernel_rfl) (by kernel_rfl) (by kernel_rfl) (fun _ _ _ h => h) (Or.inl ⟨by kernel_rfl, ?_⟩) hS ?_
    rotate_left 1
    · intro w hS
      go_simp
      all_goals with_reducible rfl
    try simp only [Act.put, List.setIfInBounds_toArray, List.set_cons_zero, List.set_cons_succ]
    refine wpAnyH_takeD (i := 4) (v := ?_) rfl (by kernel_rfl) (by kernel_rfl) (by kernel_rfl) (fun _ _ _ h => h) (Or.inl ⟨by kernel_rfl, ?_⟩) hS ?_
    rotate_left 1
    · intro w hS
      go_simp
      all_goals with_reducible rfl
    try simp only [Act.put, List.setIfInBounds_toArray, List.set_cons_zero, List.set_cons_succ]
    refine wpAnyH_takeD (i := 5) (v := ?_) rfl (by kernel_rfl) (by kernel_rfl) (by kernel_rfl) (fun _ _ _ h => h) (Or.inl ⟨by kernel_rfl, ?_⟩) hS ?_
    rotate_left 1
    · intro w hS
      obtain ⟨k1, k2, k3, k4, k5, k6⟩ := HFX.out _ hS
      go_simp
      all_goals with_reducible rfl
    try simp only [Act.put, List.setIfInBounds_toArray, List.set_cons_zero, List.set_cons_succ]
    refine wpAnyH_takeD (i := 6) (v := ?_) rfl (by kernel_rfl) (by kernel_rfl) (by kernel_rfl) (fun _ _ _ h => h) (Or.inl ⟨by kernel_rfl, ?_⟩) hS ?_
    rotate_left 1
    · intro w hS
      go_simp
      all_goals with_reducible rfl
    try simp only [Act.put, List.setIfInBounds_toArray, List.set_cons_zero, List.set_cons_succ]
    refine wpAnyH_takeD (i := 7) (v := ?_) rfl (by kernel_rfl) (by kernel_rfl) (by kernel_rfl) (fun _ _ _ h => h) (Or.inl ⟨by kernel_rfl, ?_⟩) hS ?_
    rotate_left 1
    · intro w hS
      obtain ⟨k1, k2, k3, k4, k5, k6⟩ := HFX.out _ hS
      go_simp
      all_goals with_reducible rfl
    try simp only [Act.put, List.setIfInBounds_toArray, List.set_cons_zero, List.set_cons_succ]
    refine wpAnyH_takeD (i := 8) (v := ?_) rfl (by kernel_rfl) (by kernel_rfl) (by kernel_rfl) (fun _ _ _ h => h) (Or.inl ⟨by kernel_rfl, ?_⟩) hS ?_
    rotate_left 1
    · intro w hS
      go_simp
      all_goals with_reducible rfl
    try simp only [Act.put, List.setIfInBounds_toArray, List.set_cons_zero, List.set_cons_succ]
    refine wpAnyH_takeD (i := 9) (v := ?_) rfl (by kernel_rfl) (by kernel_rfl) (by kernel_rfl) (fun _ _ _ h => h) (Or.inl ⟨by kernel_rfl, ?_⟩) hS ?_
    rotate_left 1
    · intro w hS
      go_simp
      all_goals with_reducible rfl
    try simp only [Act.put, List.setIfInBounds_toArray, List.set_cons_zero, List.set_cons_succ]
    refine wpAnyH_takeD (i := 10) (v := ?_) rfl (by kernel_rfl) (by kernel_rfl) (by kernel_rfl) (fun _ _ _ h => h) (Or.inl ⟨by kernel_rfl, ?_⟩) hS ?_
    rotate_left 1
    · intro w hS
      go_simp
      all_goals with_reducible rfl
    try simp only [Act.put, List.setIfInBounds_toArray, List.set_cons_zero, List.set_cons_succ]
    refine wpAnyH_takeD (i := 11) (v := undef) rfl (by kernel_rfl) (by kernel_rfl) (by kernel_rfl) (fun _ _ _ h => h) (Or.inr ⟨by kernel_rfl, rfl⟩) hS ?_
    try simp only [Act.put, List.setIfInBounds_toArray, List.set_cons_zero, List.set_cons_succ]
    refine wpAnyH_takeD (i := 12) (v := undef) rfl (by kernel_rfl) (by kernel_rfl) (by kernel_rfl) (fun _ _ _ h => h) (Or.inr ⟨by kernel_rfl, rfl⟩) hS ?_
    try simp only [Act.put, List.setIfInBounds_toArray, List.set_cons_zero, List.set_cons_succ]
    refine wpAnyH_takeD (i := 13) (v := undef) rfl (by kernel_rfl) (by kernel_rfl) (by kernel_rfl) (fun _ _ _ h => h) (Or.inr ⟨by kernel_rfl, rfl⟩) hS ?_
    try simp only [Act.put, List.setIfInBounds_toArray, List.set_cons_zero, List.set_cons_succ]
    refine wpAnyH_takeD (i := 14) (v := undef) rfl (by kernel_rfl) (by kernel_rfl) (by kernel_rfl) (fun _ _ _ h => h) (Or.inr ⟨by kernel_rfl, rfl⟩) hS ?_
    try simp only [Act.put, List.setIfInBounds_toArray, List.set_cons_zero, List.set_cons_succ]
    refine wpAnyH_takeD (i := 15) (v := undef) rfl (by kernel_rfl) (by kernel_rfl) (by kernel_rfl) (fun _ _ _ h => h) (Or.inr ⟨by kernel_rfl, rfl⟩) hS ?_
    try simp only [Act.put, List.setIfInBounds_toArray, List.set_cons_zero, List.set_cons_succ]
    refine wpAnyH_takeD (i := 16) (v := ?_) rfl (by kernel_rfl) (by kernel_rfl) (by kernel_rfl) (fun _ _ _ h => h) (Or.inl ⟨by kernel_rfl, ?_⟩) hS ?_
    rotate_left 1
    · intro w hS
      go_simp
      all_goals with_reducible rfl
    try simp only [Act.put, List.setIfInBounds_toArray, List.set_cons_zero, List.set_cons_succ]
    refine wpAnyH_takeD (i := 17) (v := ?_) rfl (by kernel_rfl) (by kernel_rfl) (by kernel_rfl) (fun _ _ _ h => h) (Or.inl ⟨by kernel_rfl, ?_⟩) hS ?_
    rotate_left 1
    · intro w hS
      go_simp
      all_goals with_reducible rfl
    try simp only [Act.put, List.setIfInBounds_toArray, List.set_cons_zero, List.set_cons_succ]
    refine wpAnyH_takeD (i := 18) (v := undef) rfl (by kernel_rfl) (by kernel_rfl) (by kernel_rfl) (fun _ _ _ h => h) (Or.inr ⟨by kernel_rfl, rfl⟩) hS ?_
    try simp only [Act.put, List.setIfInBounds_toArray, List.set_cons_zero, List.set_cons_succ]
    refine wpAnyH_takeD (i := 19) (v := undef) rfl (by kernel_rfl) (by kernel_rfl) (by kernel_rfl) (fun _ _ _ h => h) (Or.inr ⟨by kernel_rfl, rfl⟩) hS ?_
    try simp only [Act.put, List.setIfInBounds_toArray, List.set_cons_zero, List.set_cons_succ]
    refine wpAnyH_takeD (i := 20) (v := undef) rfl (by kernel_rfl) (by kernel_rfl) (by kernel_rfl) (fun _ _ _ h => h) (Or.inr ⟨by kernel_rfl, rfl⟩) hS ?_
    try simp only [Act.put, List.setIfInBounds_toArray, List.set_cons_zero, List.set_cons_succ]
    refine wpAnyH_takeD (i := 21) (v := undef) rfl (by kernel_rfl) (by kernel_rfl) (by kernel_rfl) (fun _ _ _ h => h) (Or.inr ⟨by kernel_rfl, rfl⟩) hS ?_
    try simp only [Act.put, List.setIfInBounds_toArray, List.set_cons_zero, List.set_cons_succ]
    refine wpAnyH_takeD (i := 22) (v := undef) rfl (by kernel_rfl) (by kernel_rfl) (by kernel_rfl) (fun _ _ _ h => h) (Or.inr ⟨by kernel_rfl, rfl⟩) hS ?_
    try simp only [Act.put, List.setIfInBounds_toArray, List.set_cons_zero, List.set_cons_succ]
    refine wpAnyH_takeD (i := 23) (v := undef) rfl (by kernel_rfl) (by kernel_rfl) (by kernel_rfl) (fun _ _ _ h => h) (Or.inr ⟨by kernel_rfl, rfl⟩) hS ?_
    try simp only [Act.put, List.setIfInBounds_toArray, List.set_cons_zero, List.set_cons_succ]
    refine wpAnyH_takeD (i := 24) (v := undef) rfl (by kernel_rfl) (by kernel_rfl) (by kernel_rfl) (fun _ _ _ h => h) (Or.inr ⟨by kernel_rfl, rfl⟩) hS ?_
    try simp only [Act.put, List.setIfInBounds_toArray, List.set_cons_zero, List.set_cons_succ]
    refine wpAnyH_takeD (i := 25) (v := ?_) rfl (by kernel_rfl) (by kernel_rfl) (by kernel_rfl) (fun _ _ _ h => h) (Or.inl ⟨by kernel_rfl, ?_⟩) hS ?_
    rotate_left 1
    · intro w hS
      go_simp
      all_goals with_reducible rfl
    try simp only [Act.put, List.setIfInBounds_toArray, List.set_cons_zero, List.set_cons_succ]
    refine wpAnyH_takeD (i := 26) (v := ?_) rfl (by kernel_rfl) (by kernel_rfl) (by kernel_rfl) (fun _ _ _ h => h) (Or.inl ⟨by kernel_rfl, ?_⟩) hS ?_
    rotate_left 1
    · intro w hS
      go_simp
      all_goals with_reducible rfl
    try simp only [Act.put, List.setIfInBounds_toArray, List.set_cons_zero, List.set_cons_succ]
    refine wpAnyH_done (by kernel_rfl) ?_ _
    have HSS := Lib.hid (bl_step HBW.out hS)
    clear hS
    go_wp2
    go_ret
    rw [HR.out]
    exact ⟨rfl, HSS.out⟩
  subst hw
  by_cases hs : ms = ms'
  case neg =>
    have hbq : (ms == ms') = false := by simp [hs]
    have HR := Lib.hid (show sameP F m F' m' p = false from HSM.out.trans (if_neg (fun e => hs e.2.2)))
    refine wp_region_held_drew (S := fun w' => Below W2.heap.size W2 w') (by kernel_rfl) ((Below.refl W2.heap.size W2).drew) (fun hS => ?_)
    refine wpAnyH_takeD (i := 0) (v := ?_) rfl (by kernel_rfl) (by kernel_rfl) (by kernel_rfl) (fun _ _ _ h => h) (Or.inl ⟨by kernel_rfl, ?_⟩) hS ?_
    rotate_left 1
    · intro w hS
      go_simp
      all_goals with_reducible rfl
    try simp only [Act.put, List.setIfInBounds_toArray, List.set_cons_zero, List.set_cons_succ]
    refine wpAnyH_takeD (i := 1) (v := ?_) rfl (by kernel_rfl) (by kernel_rfl) (by kernel_rfl) (fun _ _ _ h => h) (Or.inl ⟨by kernel_rfl, ?_⟩) hS ?_
    rotate_left 1
    · intro w hS
      go_simp
      all_goals with_reducible rfl
    try simp only [Act.put, List.setIfInBounds_toArray, List.set_cons_zero, List.set_cons_succ]
    refine wpAnyH_takeD (i := 2) (v := ?_) rfl (by kernel_rfl) (by kernel_rfl) (by kernel_rfl) (fun _ _ _ h => h) (Or.inl ⟨by kernel_rfl, ?_⟩) hS ?_
    rotate_left 1
    · intro w hS
      go_simp
      all_goals with_reducible rfl
    try simp only [Act.put, List.setIfInBounds_toArray, List.set_cons_zero, List.set_cons_succ]
    refine wpAnyH_takeD (i := 3) (v := ?_) rfl (by kernel_rfl) (by kernel_rfl) (by kernel_rfl) (fun _ _ _ h => h) (Or.inl ⟨by kernel_rfl, ?_⟩) hS ?_
    rotate_left 1
    · intro w hS
      go_simp
      all_goals with_reducible rfl
    try simp only [Act.put, List.setIfInBounds_toArray, List.set_cons_zero, List.set_cons_succ]
    refine wpAnyH_takeD (i := 4) (v := ?_) rfl (by kernel_rfl) (by kernel_rfl) (by kernel_rfl) (fun _ _ _ h => h) (Or.inl ⟨by kernel_rfl, ?_⟩) hS ?_
    rotate_left 1
    · intro w hS
      go_simp
      all_goals with_reducible rfl
    try simp only [Act.put, List.setIfInBounds_toArray, List.set_cons_zero, List.set_cons_succ]
    refine wpAnyH_takeD (i := 5) (v := ?_) rfl (by kernel_rfl) (by kernel_rfl) (by kernel_rfl) (fun _ _ _ h => h) (Or.inl ⟨by kernel_rfl, ?_⟩) hS ?_
    rotate_left 1
    · intro w hS
      obtain ⟨k1, k2, k3, k4, k5, k6⟩ := HFX.out _ hS
      go_simp
      all_goals with_reducible rfl
    try simp only [Act.put, List.setIfInBounds_toArray, List.set_cons_zero, List.set_cons_succ]
    refine wpAnyH_takeD (i := 6) (v := ?_) rfl (by kernel_rfl) (by kernel_rfl) (by kernel_rfl) (fun _ _ _ h => h) (Or.inl ⟨by kernel_rfl, ?_⟩) hS ?_
    rotate_left 1
    · intro w hS
      go_simp
      all_goals with_reducible rfl
    try simp only [Act.put, List.setIfInBounds_toArray, List.set_cons_zero, List.set_cons_succ]
    refine wpAnyH_takeD (i := 7) (v := ?_) rfl (by kernel_rfl) (by kernel_rfl) (by kernel_rfl) (fun _ _ _ h => h) (Or.inl ⟨by kernel_rfl, ?_⟩) hS ?_
    rotate_left 1
    · intro w hS
      obtain ⟨k1, k2, k3, k4, k5, k6⟩ := HFX.out _ hS
      go_simp
      all_goals with_reducible rfl
    try simp only [Act.put, List.setIfInBounds_toArray, List.set_cons_zero, List.set_cons_succ]
    refine wpAnyH_takeD (i := 8) (v := ?_) rfl (by kernel_rfl) (by kernel_rfl) (by kernel_rfl) (fun _ _ _ h => h) (Or.inl ⟨by kernel_rfl, ?_⟩) hS ?_
    rotate_left 1
    · intro w hS
      go_simp
      all_goals with_reducible rfl
    try simp only [Act.put, List.setIfInBounds_toArray, List.set_cons_zero, List.set_cons_succ]
    refine wpAnyH_takeD (i := 9) (v := ?_) rfl (by kernel_rfl) (by kernel_rfl) (by kernel_rfl) (fun _ _ _ h => h) (Or.inl ⟨by kernel_rfl, ?_⟩) hS ?_
    rotate_left 1
    · intro w hS
      go_simp
      all_goals with_reducible rfl
    try simp only [Act.put, List.setIfInBounds_toArray, List.set_cons_zero, List.set_cons_succ]
    refine wpAnyH_takeD (i := 10) (v := ?_) rfl (by kernel_rfl) (by kernel_rfl) (by kernel_rfl) (fun _ _ _ h => h) (Or.inl ⟨by kernel_rfl, ?_⟩) hS ?_
    rotate_left 1
    · intro w hS
      go_simp
      all_goals with_reducible rfl
    try simp only [Act.put, List.setIfInBounds_toArray, List.set_cons_zero, List.set_cons_succ]
    refine wpAnyH_takeD (i := 11) (v := ?_) rfl (by kernel_rfl) (by kernel_rfl) (by kernel_rfl) (fun _ _ _ h => h) (Or.inl ⟨by kernel_rfl, ?_⟩) hS ?_
    rotate_left 1
    · intro w hS
      go_simp
      all_goals with_reducible rfl
    try simp only [Act.put, List.setIfInBounds_toArray, List.set_cons_zero, List.set_cons_succ]
    refine wpAnyH_takeD (i := 12) (v := ?_) rfl (by kernel_rfl) (by kernel_rfl) (by kernel_rfl) (fun _ _ _ h => h) (Or.inl ⟨by kernel_rfl, ?_⟩) hS ?_
    rotate_left 1
    · intro w hS
      obtain ⟨k1, k2, k3, k4, k5, k6⟩ := HFX.out _ hS
      go_simp
      all_goals with_reducible rfl
    try simp only [Act.put, List.setIfInBounds_toArray, List.set_cons_zero, List.set_cons_succ]
    refine wpAnyH_takeD (i := 13) (v := ?_) rfl (by kernel_rfl) (by kernel_rfl) (by kernel_rfl) (fun _ _ _ h => h) (Or.inl ⟨by kernel_rfl, ?_⟩) hS ?_
    rotate_left 1
    · intro w hS
      go_simp
      all_goals with_reducible rfl
    try simp only [Act.put, List.setIfInBounds_toArray, List.set_cons_zero, List.set_cons_succ]
    refine wpAnyH_takeD (i := 14) (v := ?_) rfl (by kernel_rfl) (by kernel_rfl) (by kernel_rfl) (fun _ _ _ h => h) (Or.inl ⟨by kernel_rfl, ?_⟩) hS ?_
    rotate_left 1
    · intro w hS
      obtain ⟨k1, k2, k3, k4, k5, k6⟩ := HFX.out _ hS
      go_simp
      all_goals with_reducible rfl
    try simp only [Act.put, List.setIfInBounds_toArray, List.set_cons_zero, List.set_cons_succ]
    refine wpAnyH_takeD (i := 15) (v := ?_) rfl (by kernel_rfl) (by kernel_rfl) (by kernel_rfl) (fun _ _ _ h => h) (Or.inl ⟨by kernel_rfl, ?_⟩) hS ?_
    rotate_left 1
    · intro w hS
      go_simp
      all_goals with_reducible rfl
    try simp only [Act.put, List.setIfInBounds_toArray, List.set_cons_zero, List.set_cons_succ]
    refine wpAnyH_takeD (i := 16) (v := ?_) rfl (by kernel_rfl) (by kernel_rfl) (by kernel_rfl) (fun _ _ _ h => h) (Or.inl ⟨by kernel_rfl, ?_⟩) hS ?_
    rotate_left 1
    · intro w hS
      go_simp
      all_goals with_reducible rfl
    try simp only [Act.put, List.setIfInBounds_toArray, List.set_cons_zero, List.set_cons_succ]
    refine wpAnyH_takeD (i := 17) (v := ?_) rfl (by kernel_rfl) (by kernel_rfl) (by kernel_rfl) (fun _ _ _ h => h) (Or.inl ⟨by kernel_rfl, ?_⟩) hS ?_
    rotate_left 1
    · intro w hS
      go_simp
      all_goals with_reducible rfl
    try simp only [Act.put, List.setIfInBounds_toArray, List.set_cons_zero, List.set_cons_succ]
    refine wpAnyH_takeD (i := 18) (v := undef) rfl (by kernel_rfl) (by kernel_rfl) (by kernel_rfl) (fun _ _ _ h => h) (Or.inr ⟨by kernel_rfl, rfl⟩) hS ?_
    try simp only [Act.put, List.setIfInBounds_toArray, List.set_cons_zero, List.set_cons_succ]
    refine wpAnyH_takeD (i := 19) (v := undef) rfl (by kernel_rfl) (by kernel_rfl) (by kernel_rfl) (fun _ _ _ h => h) (Or.inr ⟨by kernel_rfl, rfl⟩) hS ?_
    try simp only [Act.put, List.setIfInBounds_toArray, List.set_cons_zero, List.set_cons_succ]
    refine wpAnyH_takeD (i := 20) (v := undef) rfl (by kernel_rfl) (by kernel_rfl) (by kernel_rfl) (fun _ _ _ h => h) (Or.inr ⟨by kernel_rfl, rfl⟩) hS ?_
    try simp only [Act.put, List.setIfInBounds_toArray, List.set_cons_zero, List.set_cons_succ]
    refine wpAnyH_takeD (i := 21) (v := undef) rfl (by kernel_rfl) (by kernel_rfl) (by kernel_rfl) (fun _ _ _ h => h) (Or.inr ⟨by kernel_rfl, rfl⟩) hS ?_
    try simp only [Act.put, List.setIfInBounds_toArray, List.set_cons_zero, List.set_cons_succ]
    refine wpAnyH_takeD (i := 22) (v := undef) rfl (by kernel_rfl) (by kernel_rfl) (by kernel_rfl) (fun _ _ _ h => h) (Or.inr ⟨by kernel_rfl, rfl⟩) hS ?_
    try simp only [Act.put, List.setIfInBounds_toArray, List.set_cons_zero, List.set_cons_succ]
    refine wpAnyH_takeD (i := 23) (v := undef) rfl (by kernel_rfl) (by kernel_rfl) (by kernel_rfl) (fun _ _ _ h => h) (Or.inr ⟨by kernel_rfl, rfl⟩) hS ?_
    try simp only [Act.put, List.setIfInBounds_toArray, List.set_cons_zero, List.set_cons_succ]
    refine wpAnyH_takeD (i := 24) (v := undef) rfl (by kernel_rfl) (by kernel_rfl) (by kernel_rfl) (fun _ _ _ h => h) (Or.inr ⟨by kernel_rfl, rfl⟩) hS ?_
    try simp only [Act.put, List.setIfInBounds_toArray, List.set_cons_zero, List.set_cons_succ]
    refine wpAnyH_takeD (i := 25) (v := ?_) rfl (by kernel_rfl) (by kernel_rfl) (by kernel_rfl) (fun _ _ _ h => h) (Or.inl ⟨by kernel_rfl, ?_⟩) hS ?_
    rotate_left 1
    · intro w hS
      go_simp
      all_goals with_reducible rfl
    try simp only [Act.put, List.setIfInBounds_toArray, List.set_cons_zero, List.set_cons_succ]
    refine wpAnyH_takeD (i := 26) (v := ?_) rfl (by kernel_rfl) (by kernel_rfl) (by kernel_rfl) (fun _ _ _ h => h) (Or.inl ⟨by kernel_rfl, ?_⟩) hS ?_
    rotate_left 1
    · intro w hS
      go_simp
      all_goals with_reducible rfl
    try simp only [Act.put, List.setIfInBounds_toArray, List.set_cons_zero, List.set_cons_succ]
    refine wpAnyH_done (by kernel_rfl) ?_ _
    have HSS := Lib.hid (bl_step HBW.out hS)
    clear hS
    go_wp2
    go_ret
    rw [HR.out]
    exact ⟨rfl, HSS.out⟩
  subst hs
  have HR := Lib.hid (show sameP F m F' m' p = eqS (pageP F m p) (pageP F' m' p) from HSM.out.trans (if_pos ⟨rfl, rfl, rfl⟩))
  refine wp_region_held_drew (S := fun w' => Below W2.heap.size W2 w') (by kernel_rfl) ((Below.refl W2.heap.size W2).drew) (fun hS => ?_)
  refine wpAnyH_takeD (i := 0) (v := ?_) rfl (by kernel_rfl) (by kernel_rfl) (by kernel_rfl) (fun _ _ _ h => h) (Or.inl ⟨by kernel_rfl, ?_⟩) hS ?_
  rotate_left 1
  · intro w hS
    go_simp
    all_goals with_reducible rfl
  try simp only [Act.put, List.setIfInBounds_toArray, List.set_cons_zero, List.set_cons_succ]
  refine wpAnyH_takeD (i := 1) (v := ?_) rfl (by kernel_rfl) (by kernel_rfl) (by kernel_rfl) (fun _ _ _ h => h) (Or.inl ⟨by kernel_rfl, ?_⟩) hS ?_
  rotate_left 1
  · intro w hS
    go_simp
    all_goals with_reducible rfl
  try simp only [Act.put, List.setIfInBounds_toArray, List.set_cons_zero, List.set_cons_succ]
  refine wpAnyH_takeD (i := 2) (v := ?_) rfl (by kernel_rfl) (by kernel_rfl) (by kernel_rfl) (fun _ _ _ h => h) (Or.inl ⟨by kernel_rfl, ?_⟩) hS ?_
  rotate_left 1
  · intro w hS
    go_simp
    all_goals with_reducible rfl
  try simp only [Act.put, List.setIfInBounds_toArray, List.set_cons_zero, List.set_cons_succ]
  refine wpAnyH_takeD (i := 3) (v := ?_) rfl (by kernel_rfl) (by kernel_rfl) (by kernel_rfl) (fun _ _ _ h => h) (Or.inl ⟨by kernel_rfl, ?_⟩) hS ?_
  rotate_left 1
  · intro w hS
    go_simp
    all_goals with_reducible rfl
  try simp only [Act.put, List.setIfInBounds_toArray, List.set_cons_zero, List.set_cons_succ]
  refine wpAnyH_takeD (i := 4) (v := ?_) rfl (by kernel_rfl) (by kernel_rfl) (by kernel_rfl) (fun _ _ _ h => h) (Or.inl ⟨by kernel_rfl, ?_⟩) hS ?_
  rotate_left 1
  · intro w hS
    go_simp
    all_goals with_reducible rfl
  try simp only [Act.put, List.setIfInBounds_toArray, List.set_cons_zero, List.set_cons_succ]
  refine wpAnyH_takeD (i := 5) (v := ?_) rfl (by kernel_rfl) (by kernel_rfl) (by kernel_rfl) (fun _ _ _ h => h) (Or.inl ⟨by kernel_rfl, ?_⟩) hS ?_
  rotate_left 1
  · intro w hS
    obtain ⟨k1, k2, k3, k4, k5, k6⟩ := HFX.out _ hS
    go_simp
    all_goals with_reducible rfl
  try simp only [Act.put, List.setIfInBounds_toArray, List.set_cons_zero, List.set_cons_succ]
  refine wpAnyH_takeD (i := 6) (v := ?_) rfl (by kernel_rfl) (by kernel_rfl) (by kernel_rfl) (fun _ _ _ h => h) (Or.inl ⟨by kernel_rfl, ?_⟩) hS ?_
  rotate_left 1
  · intro w hS
    go_simp
    all_goals with_reducible rfl
  try simp only [Act.put, List.setIfInBounds_toArray, List.set_cons_zero, List.set_cons_succ]
  refine wpAnyH_takeD (i := 7) (v := ?_) rfl (by kernel_rfl) (by kernel_rfl) (by kernel_rfl) (fun _ _ _ h => h) (Or.inl ⟨by kernel_rfl, ?_⟩) hS ?_
  rotate_left 1
  · intro w hS
    obtain ⟨k1, k2, k3, k4, k5, k6⟩ := HFX.out _ hS
    go_simp
    all_goals with_reducible rfl
  try simp only [Act.put, List.setIfInBounds_toArray, List.set_cons_zero, List.set_cons_succ]
  refine wpAnyH_takeD (i := 8) (v := ?_) rfl (by kernel_rfl) (by kernel_rfl) (by kernel_rfl) (fun _ _ _ h => h) (Or.inl ⟨by kernel_rfl, ?_⟩) hS ?_
  rotate_left 1
  · intro w hS
    go_simp
    all_goals with_reducible rfl
  try simp only [Act.put, List.setIfInBounds_toArray, List.set_cons_zero, List.set_cons_succ]
  refine wpAnyH_takeD (i := 9) (v := ?_) rfl (by kernel_rfl) (by kernel_rfl) (by kernel_rfl) (fun _ _ _ h => h) (Or.inl ⟨by kernel_rfl, ?_⟩) hS ?_
  rotate_left 1
  · intro w hS
    go_simp
    all_goals with_reducible rfl
  try simp only [Act.put, List.setIfInBounds_toArray, List.set_cons_zero, List.set_cons_succ]
  refine wpAnyH_takeD (i := 10) (v := ?_) rfl (by kernel_rfl) (by kernel_rfl) (by kernel_rfl) (fun _ _ _ h => h) (Or.inl ⟨by kernel_rfl, ?_⟩) hS ?_
  rotate_left 1
  · intro w hS
    go_simp
    all_goals with_reducible rfl
  try simp only [Act.put, List.setIfInBounds_toArray, List.set_cons_zero, List.set_cons_succ]
  refine wpAnyH_takeD (i := 11) (v := ?_) rfl (by kernel_rfl) (by kernel_rfl) (by kernel_rfl) (fun _ _ _ h => h) (Or.inl ⟨by kernel_rfl, ?_⟩) hS ?_
  rotate_left 1
  · intro w hS
    go_simp
    all_goals with_reducible rfl
  try simp only [Act.put, List.setIfInBounds_toArray, List.set_cons_zero, List.set_cons_succ]
  refine wpAnyH_takeD (i := 12) (v := ?_) rfl (by kernel_rfl) (by kernel_rfl) (by kernel_rfl) (fun _ _ _ h => h) (Or.inl ⟨by kernel_rfl, ?_⟩) hS ?_
  rotate_left 1
  · intro w hS
    obtain ⟨k1, k2, k3, k4, k5, k6⟩ := HFX.out _ hS
    go_simp
    all_goals with_reducible rfl
  try simp only [Act.put, List.setIfInBounds_toArray, List.set_cons_zero, List.set_cons_succ]
  refine wpAnyH_takeD (i := 13) (v := ?_) rfl (by kernel_rfl) (by kernel_rfl) (by kernel_rfl) (fun _ _ _ h => h) (Or.inl ⟨by kernel_rfl, ?_⟩) hS ?_
  rotate_left 1
  · intro w hS
    go_simp
    all_goals with_reducible rfl
  try simp only [Act.put, List.setIfInBounds_toArray, List.set_cons_zero, List.set_cons_succ]
  refine wpAnyH_takeD (i := 14) (v := ?_) rfl (by kernel_rfl) (by kernel_rfl) (by kernel_rfl) (fun _ _ _ h => h) (Or.inl ⟨by kernel_rfl, ?_⟩) hS ?_
  rotate_left 1
  · intro w hS
    obtain ⟨k1, k2, k3, k4, k5, k6⟩ := HFX.out _ hS
    go_simp
    all_goals with_reducible rfl
  try simp only [Act.put, List.setIfInBounds_toArray, List.set_cons_zero, List.set_cons_succ]
  refine wpAnyH_takeD (i := 15) (v := ?_) rfl (by kernel_rfl) (by kernel_rfl) (by kernel_rfl) (fun _ _ _ h => h) (Or.inl ⟨by kernel_rfl, ?_⟩) hS ?_
  rotate_left 1
  · intro w hS
    go_simp
    all_goals with_reducible rfl
  try simp only [Act.put, List.setIfInBounds_toArray, List.set_cons_zero, List.set_cons_succ]
  refine wpAnyH_takeD (i := 16) (v := ?_) rfl (by kernel_rfl) (by kernel_rfl) (by kernel_rfl) (fun _ _ _ h => h) (Or.inl ⟨by kernel_rfl, ?_⟩) hS ?_
  rotate_left 1
  · intro w hS
    go_simp
    all_goals with_reducible rfl
  try simp only [Act.put, List.setIfInBounds_toArray, List.set_cons_zero, List.set_cons_succ]
  refine wpAnyH_takeD (i := 17) (v := ?_) rfl (by kernel_rfl) (by kernel_rfl) (by kernel_rfl) (fun _ _ _ h => h) (Or.inl ⟨by kernel_rfl, ?_⟩) hS ?_
  rotate_left 1
  · intro w hS
    go_simp
    all_goals with_reducible rfl
  try simp only [Act.put, List.setIfInBounds_toArray, List.set_cons_zero, List.set_cons_succ]
  refine wpAnyH_takeD (i := 18) (v := ?_) rfl (by kernel_rfl) (by kernel_rfl) (by kernel_rfl) (fun _ _ _ h => h) (Or.inl ⟨by kernel_rfl, ?_⟩) hS ?_
  rotate_left 1
  · intro w hS
    obtain ⟨k1, k2, k3, k4, k5, k6⟩ := HFX.out _ hS
    go_simp
    all_goals with_reducible rfl
  try simp only [Act.put, List.setIfInBounds_toArray, List.set_cons_zero, List.set_cons_succ]
  refine wpAnyH_takeD (i := 19) (v := ?_) rfl (by kernel_rfl) (by kernel_rfl) (by kernel_rfl) (fun _ _ _ h => h) (Or.inl ⟨by kernel_rfl, ?_⟩) hS ?_
  rotate_left 1
  · intro w hS
    go_simp
    all_goals with_reducible rfl
  try simp only [Act.put, List.setIfInBounds_toArray, List.set_cons_zero, List.set_cons_succ]
  refine wpAnyH_takeD (i := 21) (v := ?_) rfl (by kernel_rfl) (by kernel_rfl) (by kernel_rfl) (fun _ _ _ h => h) (Or.inl ⟨by kernel_rfl, ?_⟩) hS ?_
  rotate_left 1
  · intro w hS
    obtain ⟨k1, k2, k3, k4, k5, k6⟩ := HFX.out _ hS
    go_simp
    all_goals with_reducible rfl
  try simp only [Act.put, List.setIfInBounds_toArray, List.set_cons_zero, List.set_cons_succ]
  refine wpAnyH_takeD (i := 22) (v := ?_) rfl (by kernel_rfl) (by kernel_rfl) (by kernel_rfl) (fun _ _ _ h => h) (Or.inl ⟨by kernel_rfl, ?_⟩) hS ?_
  rotate_left 1
  · intro w hS
    go_simp
    all_goals with_reducible rfl
  try simp only [Act.put, List.setIfInBounds_toArray, List.set_cons_zero, List.set_cons_succ]
  refine wpAnyH_ready (rs := [20]) (by kernel_rfl) (by simp) ?_
  refine AllReadyH.consD rfl (fun K hK => ?_) AllReadyH.nil
  go_simp
  refine (HPG.out _ (bl_step HBW.out hS)).mono ?_
  rintro e V1 ⟨v1, rfl, hrow1, hbv1⟩
  refine hK.out _ _ (bl_step hS hbv1) (fun hS => ?_)
  clear hK K
  try simp only [Act.put, List.setIfInBounds_toArray, List.set_cons_zero, List.set_cons_succ]
  have R1 := Lib.hid hrow1
  clear hrow1
  refine wpAnyH_ready (rs := [23]) (by kernel_rfl) (by simp) ?_
  refine AllReadyH.consD rfl (fun K hK => ?_) AllReadyH.nil
  go_simp
  refine (HPG'.out _ (bl_step HBW.out hS)).mono ?_
  rintro e V2 ⟨v2, rfl, hrow2, hbv2⟩
  refine hK.out _ _ (bl_step hS hbv2) (fun hS => ?_)
  clear hK K
  try simp only [Act.put, List.setIfInBounds_toArray, List.set_cons_zero, List.set_cons_succ]
  have HEQ := Lib.hid (equal_any (ownsRow_below R1.out hbv2) hrow2)
  clear hrow2 hbv1 hbv2 R1
  generalize eqS (pageP F m p) (pageP F' m' p) = eq at *
  refine wpAnyH_ready (rs := [24]) (by kernel_rfl) (by simp) ?_
  refine AllReadyH.consD rfl (fun K hK => ?_) AllReadyH.nil
  go_simp
  refine (HEQ.out).mono ?_
  rintro e V3 ⟨rfl, hbv3⟩
  refine hK.out _ _ (bl_step hS hbv3) (fun hS => ?_)
  clear hK K
  try simp only [Act.put, List.setIfInBounds_toArray, List.set_cons_zero, List.set_cons_succ]
  refine wpAnyH_takeD (i := 25) (v := ?_) rfl (by kernel_rfl) (by kernel_rfl) (by kernel_rfl) (fun _ _ _ h => h) (Or.inl ⟨by kernel_rfl, ?_⟩) hS ?_
  rotate_left 1
  · intro w hS
    go_simp
    all_goals with_reducible rfl
  try simp only [Act.put, List.setIfInBounds_toArray, List.set_cons_zero, List.set_cons_succ]
  refine wpAnyH_takeD (i := 26) (v := ?_) rfl (by kernel_rfl) (by kernel_rfl) (by kernel_rfl) (fun _ _ _ h => h) (Or.inl ⟨by kernel_rfl, ?_⟩) hS ?_
  rotate_left 1
  · intro w hS
    go_simp
    all_goals with_reducible rfl
  try simp only [Act.put, List.setIfInBounds_toArray, List.set_cons_zero, List.set_cons_succ]
  refine wpAnyH_done (by kernel_rfl) ?_ _
  have HSS := Lib.hid (bl_step HBW.out hS)
  clear hS
  go_wp2
  go_ret
  rw [HR.out]
  exact ⟨rfl, HSS.out⟩
end
end
section
open Go.RowKit Go.Shelf
set_option linter.unusedVariables false
set_option linter.unusedSimpArgs false
attribute [local go_sem] Oper.semAt_some
set_option maxRecDepth 100000

def firstG (F : Fs) (m : M) (F' : Fs) (m' : M) : Nat → Nat → Int
  | 0, _ => -1
  | n + 1, k => if sameP F m F' m' k = true then firstG F m F' m' n (k + 1) else k
def firstP (F : Fs) (m : M) (F' : Fs) (m' : M) : Int := firstG F m F' m' 64 0
section
variable {w W W' : World} {fb lb cap fb' lb' cap' : Nat} {F F' : Fs} {so bt so' bt' : Nat} {q q' : Nat → Option Nat} {m m' : M}
set_option maxRecDepth 100000 in
set_option maxHeartbeats 4000000 in
theorem first_any (h : FS W fb lb cap F so bt q m) (hok : SpOk F m) (h' : FS W fb' lb' cap' F' so' bt' q' m') (hok' : SpOk F' m') :
    Calls Try.prog 31 #[.pointer (some ⟨so, 0, none⟩), .pointer (some ⟨so', 0, none⟩)] W fun e W' => e = .returned (.int .i64 (firstP F m F' m')) ∧ Below W.heap.size W W' := by
  have HH := Lib.hid h
  have HH' := Lib.hid h'
  have HO := Lib.hid (show SpOk F m ∧ SpOk F' m' from ⟨hok, hok'⟩)
  clear h h' hok hok'
  go_enter Try.func31, Try.ntmps31
  go_upto_region 1 with (fail)
  have x1 := (Blk.new W 24 #[.pointer (some ⟨so, 0, none⟩)]).alloc (.cells #[.pointer (some ⟨so', 0, none⟩)] 24)
  have x2 := Blk.new (W.alloc (.cells #[.pointer (some ⟨so, 0, none⟩)] 24)) 24 #[.pointer (some ⟨so', 0, none⟩)]
  simp only [World.size_alloc] at x2
  have hb0 := bl_new (bl_new (Below.refl W.heap.size W) (.cells #[.pointer (some ⟨so, 0, none⟩)] 24)) (.cells #[.pointer (some ⟨so', 0, none⟩)] 24)
  generalize ((W.alloc (.cells #[.pointer (some ⟨so, 0, none⟩)] 24)).alloc (.cells #[.pointer (some ⟨so', 0, none⟩)] 24)) = W0 at *
  have HX := Lib.hid (show Blk W0 W.heap.size 24 #[.pointer (some ⟨so, 0, none⟩)] ∧ Blk W0 (W.heap.size + 1) 24 #[.pointer (some ⟨so', 0, none⟩)] ∧ Below W.heap.size W W0 from ⟨x1, x2, hb0⟩)
  have HFX := Lib.hid (fun W1 (hb : Below W0.heap.size W0 W1) => (show W1.cell? ⟨W.heap.size, 0, none⟩ = some (.pointer (some ⟨so, 0, none⟩)) ∧ W1.cell? ⟨W.heap.size + 1, 0, none⟩ = some (.pointer (some ⟨so', 0, none⟩)) from
    ⟨(x1.below hb x1.lt).cell 0, (x2.below hb x2.lt).cell 0⟩))
  have HC1 := Lib.hid (fun W1 (hb : Below W0.heap.size W0 W1) => entries_any (HH.out.below (bl_step hb0 hb)))
  have HC3 := Lib.hid (fun W1 (hb : Below W0.heap.size W0 W1) => entries_any (HH'.out.below (bl_step hb0 hb)))
  clear x1 x2 hb0
  go_cut [5, 6] from 9 to 13 (fun t5 t6 wc => ∃ p1 p2, t5 = .pointer (some ⟨p1, 0, none⟩) ∧ t6 = .pointer (some ⟨p2, 0, none⟩) ∧ Hid (Ents wc p1 p2 m m' ∧ Below W0.heap.size W0 wc))
  case first =>
    refine wp_region_held_drew (S := fun w' => Below W0.heap.size W0 w') (by kernel_rfl) ((Below.refl W0.heap.size W0).drew) (fun hS => ?_)
    refine wpAnyH_take (i := 0) (v := ?_) rfl (by kernel_rfl) (by kernel_rfl) (by kernel_rfl) (fun _ _ _ h => h) (Or.inl ⟨by kernel_rfl, ?_⟩) hS ?_
    rotate_left 1
    · intro w hS
      obtain ⟨c0, c1⟩ := HFX.out _ hS
      go_simp
      all_goals with_reducible rfl
    try simp only [Act.put, List.setIfInBounds_toArray, List.set_cons_zero, List.set_cons_succ]
    refine wpAnyH_take (i := 2) (v := ?_) rfl (by kernel_rfl) (by kernel_rfl) (by kernel_rfl) (fun _ _ _ h => h) (Or.inl ⟨by kernel_rfl, ?_⟩) hS ?_
    rotate_left 1
    · intro w hS
      obtain ⟨c0, c1⟩ := HFX.out _ hS
      go_simp
      all_goals with_reducible rfl
    try simp only [Act.put, List.setIfInBounds_toArray, List.set_cons_zero, List.set_cons_succ]
    generalize W0.drew = V at *
    refine wpAnyH_ready (rs := [1, 4, 5]) (by kernel_rfl) (by simp) ?_
    refine AllReadyH.cons rfl (fun K hK => ?_) (AllReadyH.cons rfl (fun K hK => ?_) (AllReadyH.cons rfl (fun K hK => ?_) AllReadyH.nil))
    · go_simp
      refine (HC1.out _ hS).mono ?_
      rintro e V1 ⟨mb1, rfl, hE, hbn⟩
      refine hK.out _ _ (bl_step hS hbn) (fun hS => ?_)
      clear hK K
      try simp only [Act.put, List.setIfInBounds_toArray, List.set_cons_zero, List.set_cons_succ]
      have e1_V1 := Lib.hid hE
      clear hE
      clear hbn
      refine wpAnyH_ready (rs := [3, 4, 5]) (by kernel_rfl) (by simp) ?_
      refine AllReadyH.cons rfl (fun K hK => ?_) (AllReadyH.cons rfl (fun K hK => ?_) (AllReadyH.cons rfl (fun K hK => ?_) AllReadyH.nil))
      · go_simp
        refine (HC3.out _ hS).mono ?_
        rintro e V13 ⟨mb3, rfl, hE, hbn⟩
        refine hK.out _ _ (bl_step hS hbn) (fun hS => ?_)
        clear hK K
        try simp only [Act.put, List.setIfInBounds_toArray, List.set_cons_zero, List.set_cons_succ]
        have e1_V13 := Lib.hid (EntK.below e1_V1.out hbn)
        clear e1_V1
        have e3_V13 := Lib.hid hE
        clear hE
        clear hbn
        refine wpAnyH_ready (rs := [4, 5]) (by kernel_rfl) (by simp) ?_
        refine AllReadyH.cons rfl (fun K hK => ?_) (AllReadyH.cons rfl (fun K hK => ?_) AllReadyH.nil)
        · have hbn := bl_new (Below.refl V13.heap.size V13) (.cells #[.map none] 110)
          have hBn := Blk.new V13 110 #[.map none]
          have P4 := Lib.hid hS.size
          go_simp
          refine hK.out _ _ (bl_step hS hbn) (fun hS => ?_)
          clear hK K
          try simp only [Act.put, List.setIfInBounds_toArray, List.set_cons_zero, List.set_cons_succ]
          generalize V13.alloc (.cells #[.map none] 110) = V134 at *
          have e1_V134 := Lib.hid (EntK.below e1_V13.out hbn)
          clear e1_V13
          have e3_V134 := Lib.hid (EntK.below e3_V13.out hbn)
          clear e3_V13
          have st4_V134 := Lib.hid hBn
          clear hBn
          clear hbn
          refine wpAnyH_ready (rs := [5]) (by kernel_rfl) (by simp) ?_
          refine AllReadyH.cons rfl (fun K hK => ?_) AllReadyH.nil
          · have hbn := bl_new (Below.refl V134.heap.size V134) (.cells #[.map none] 110)
            have hBn := Blk.new V134 110 #[.map none]
            have P5 := Lib.hid hS.size
            have NE := Lib.hid (show V13.heap.size < V134.heap.size from st4_V134.out.lt)
            go_simp
            refine hK.out _ _ (bl_step hS hbn) (fun hS => ?_)
            clear hK K
            try simp only [Act.put, List.setIfInBounds_toArray, List.set_cons_zero, List.set_cons_succ]
            generalize V134.alloc (.cells #[.map none] 110) = V1345 at *
            have e1_V1345 := Lib.hid (EntK.below e1_V134.out hbn)
            clear e1_V134
            have e3_V1345 := Lib.hid (EntK.below e3_V134.out hbn)
            clear e3_V134
            have st4_V1345 := Lib.hid (st4_V134.out.below hbn st4_V134.out.lt)
            clear st4_V134
            have st5_V1345 := Lib.hid hBn
            clear hBn
            clear hbn
            have cB := st4_V1345.out.cell 0
            simp only [List.getElem?_toArray, List.getElem?_cons_zero] at cB
            have fB := st4_V1345.out.frozen 0
            have lB := st4_V1345.out.lt
            refine wpAnyH_ready (rs := [6]) (by kernel_rfl) (by simp) ?_
            refine AllReadyH.cons rfl (fun K hK => ?_) AllReadyH.nil
            go_simp
            refine hK.out _ _ (hS.setCell (by show W0.heap.size ≤ V13.heap.size; exact P4.out) _) (fun hS => ?_)
            clear hK K
            try simp only [Act.put, List.setIfInBounds_toArray, List.set_cons_zero, List.set_cons_succ]
            have b4 := Lib.hid (st4_V1345.out.set_ 0 (.map (some mb1)))
            have b5 := Lib.hid (st5_V1345.out.far (p := ⟨V13.heap.size, 0, none⟩) (by show V134.heap.size ≠ V13.heap.size; have := NE.out; omega) (.map (some mb1)))
            have e1 := Lib.hid (EntK.cell e1_V1345.out st4_V1345.out (.map (some mb1)))
            have e3 := Lib.hid (EntK.cell e3_V1345.out st4_V1345.out (.map (some mb1)))
            clear cB fB lB
            generalize V1345.setCell ⟨V13.heap.size, 0, none⟩ (.map (some mb1)) = V1345s at *
            have cB := b5.out.cell 0
            simp only [List.getElem?_toArray, List.getElem?_cons_zero] at cB
            have fB := b5.out.frozen 0
            have lB := b5.out.lt
            refine wpAnyH_ready (rs := [7]) (by kernel_rfl) (by simp) ?_
            refine AllReadyH.cons rfl (fun K hK => ?_) AllReadyH.nil
            go_simp
            refine hK.out _ _ (hS.setCell (by show W0.heap.size ≤ V134.heap.size; exact P5.out) _) (fun hS => ?_)
            clear hK K
            try simp only [Act.put, List.setIfInBounds_toArray, List.set_cons_zero, List.set_cons_succ]
            have HR := Lib.hid (show Ents (V1345s.setCell ⟨V134.heap.size, 0, none⟩ (.map (some mb3))) (V13.heap.size) (V134.heap.size) m m' ∧ Below W0.heap.size W0 (V1345s.setCell ⟨V134.heap.size, 0, none⟩ (.map (some mb3))) from ⟨⟨⟨mb1, b4.out.far (p := ⟨V134.heap.size, 0, none⟩) (by show V13.heap.size ≠ V134.heap.size; have := NE.out; omega) _, EntK.cell e1.out b5.out _⟩, ⟨mb3, b5.out.set_ 0 _, EntK.cell e3.out b5.out _⟩⟩, hS⟩)
            clear cB fB lB hS
            refine wpAnyH_done (by kernel_rfl) ?_ _
            go_wp2_with (fail)
            go_meet
            case rel => exact ⟨_, _, rfl, rfl, HR⟩
        · have hbn := bl_new (Below.refl V13.heap.size V13) (.cells #[.map none] 110)
          have hBn := Blk.new V13 110 #[.map none]
          have P5 := Lib.hid hS.size
          go_simp
          refine hK.out _ _ (bl_step hS hbn) (fun hS => ?_)
          clear hK K
          try simp only [Act.put, List.setIfInBounds_toArray, List.set_cons_zero, List.set_cons_succ]
          generalize V13.alloc (.cells #[.map none] 110) = V135 at *
          have e1_V135 := Lib.hid (EntK.below e1_V13.out hbn)
          clear e1_V13
          have e3_V135 := Lib.hid (EntK.below e3_V13.out hbn)
          clear e3_V13
          have st5_V135 := Lib.hid hBn
          clear hBn
          clear hbn
          refine wpAnyH_ready (rs := [4]) (by kernel_rfl) (by simp) ?_
          refine AllReadyH.cons rfl (fun K hK => ?_) AllReadyH.nil
          · have hbn := bl_new (Below.refl V135.heap.size V135) (.cells #[.map none] 110)
            have hBn := Blk.new V135 110 #[.map none]
            have P4 := Lib.hid hS.size
            have NE := Lib.hid (show V13.heap.size < V135.heap.size from st5_V135.out.lt)
            go_simp
            refine hK.out _ _ (bl_step hS hbn) (fun hS => ?_)
            clear hK K
            try simp only [Act.put, List.setIfInBounds_toArray, List.set_cons_zero, List.set_cons_succ]
            generalize V135.alloc (.cells #[.map none] 110) = V1354 at *
            have e1_V1354 := Lib.hid (EntK.below e1_V135.out hbn)
            clear e1_V135
            have e3_V1354 := Lib.hid (EntK.below e3_V135.out hbn)
            clear e3_V135
            have st5_V1354 := Lib.hid (st5_V135.out.below hbn st5_V135.out.lt)
            clear st5_V135
            have st4_V1354 := Lib.hid hBn
            clear hBn
            clear hbn
            have cB := st4_V1354.out.cell 0
            simp only [List.getElem?_toArray, List.getElem?_cons_zero] at cB
            have fB := st4_V1354.out.frozen 0
            have lB := st4_V1354.out.lt
            refine wpAnyH_ready (rs := [6]) (by kernel_rfl) (by simp) ?_
            refine AllReadyH.cons rfl (fun K hK => ?_) AllReadyH.nil
            go_simp
            refine hK.out _ _ (hS.setCell (by show W0.heap.size ≤ V135.heap.size; exact P4.out) _) (fun hS => ?_)
            clear hK K
            try simp only [Act.put, List.setIfInBounds_toArray, List.set_cons_zero, List.set_cons_succ]
            have b4 := Lib.hid (st4_V1354.out.set_ 0 (.map (some mb1)))
            have b5 := Lib.hid (st5_V1354.out.far (p := ⟨V135.heap.size, 0, none⟩) (by show V13.heap.size ≠ V135.heap.size; have := NE.out; omega) (.map (some mb1)))
            have e1 := Lib.hid (EntK.cell e1_V1354.out st4_V1354.out (.map (some mb1)))
            have e3 := Lib.hid (EntK.cell e3_V1354.out st4_V1354.out (.map (some mb1)))
            clear cB fB lB
            generalize V1354.setCell ⟨V135.heap.size, 0, none⟩ (.map (some mb1)) = V1354s at *
            have cB := b5.out.cell 0
            simp only [List.getElem?_toArray, List.getElem?_cons_zero] at cB
            have fB := b5.out.frozen 0
            have lB := b5.out.lt
            refine wpAnyH_ready (rs := [7]) (by kernel_rfl) (by simp) ?_
            refine AllReadyH.cons rfl (fun K hK => ?_) AllReadyH.nil
            go_simp
            refine hK.out _ _ (hS.setCell (by show W0.heap.size ≤ V13.heap.size; exact P5.out) _) (fun hS => ?_)
            clear hK K
            try simp only [Act.put, List.setIfInBounds_toArray, List.set_cons_zero, List.set_cons_succ]
            have HR := Lib.hid (show Ents (V1354s.setCell ⟨V13.heap.size, 0, none⟩ (.map (some mb3))) (V135.heap.size) (V13.heap.size) m m' ∧ Below W0.heap.size W0 (V1354s.setCell ⟨V13.heap.size, 0, none⟩ (.map (some mb3))) from ⟨⟨⟨mb1, b4.out.far (p := ⟨V13.heap.size, 0, none⟩) (by show V135.heap.size ≠ V13.heap.size; have := NE.out; omega) _, EntK.cell e1.out b5.out _⟩, ⟨mb3, b5.out.set_ 0 _, EntK.cell e3.out b5.out _⟩⟩, hS⟩)
            clear cB fB lB hS
            refine wpAnyH_done (by kernel_rfl) ?_ _
            go_wp2_with (fail)
            go_meet
            case rel => exact ⟨_, _, rfl, rfl, HR⟩
      · have hbn := bl_new (Below.refl V1.heap.size V1) (.cells #[.map none] 110)
        have hBn := Blk.new V1 110 #[.map none]
        have P4 := Lib.hid hS.size
        go_simp
        refine hK.out _ _ (bl_step hS hbn) (fun hS => ?_)
        clear hK K
        try simp only [Act.put, List.setIfInBounds_toArray, List.set_cons_zero, List.set_cons_succ]
        generalize V1.alloc (.cells #[.map none] 110) = V14 at *
        have e1_V14 := Lib.hid (EntK.below e1_V1.out hbn)
        clear e1_V1
        have st4_V14 := Lib.hid hBn
        clear hBn
        clear hbn
        refine wpAnyH_ready (rs := [3, 5]) (by kernel_rfl) (by simp) ?_
        refine AllReadyH.cons rfl (fun K hK => ?_) (AllReadyH.cons rfl (fun K hK => ?_) AllReadyH.nil)
        · go_simp
          refine (HC3.out _ hS).mono ?_
          rintro e V143 ⟨mb3, rfl, hE, hbn⟩
          refine hK.out _ _ (bl_step hS hbn) (fun hS => ?_)
          clear hK K
          try simp only [Act.put, List.setIfInBounds_toArray, List.set_cons_zero, List.set_cons_succ]
          have e1_V143 := Lib.hid (EntK.below e1_V14.out hbn)
          clear e1_V14
          have st4_V143 := Lib.hid (st4_V14.out.below hbn st4_V14.out.lt)
          clear st4_V14
          have e3_V143 := Lib.hid hE
          clear hE
          clear hbn
          refine wpAnyH_ready (rs := [5]) (by kernel_rfl) (by simp) ?_
          refine AllReadyH.cons rfl (fun K hK => ?_) AllReadyH.nil
          · have hbn := bl_new (Below.refl V143.heap.size V143) (.cells #[.map none] 110)
            have hBn := Blk.new V143 110 #[.map none]
            have P5 := Lib.hid hS.size
            have NE := Lib.hid (show V1.heap.size < V143.heap.size from st4_V143.out.lt)
            go_simp
            refine hK.out _ _ (bl_step hS hbn) (fun hS => ?_)
            clear hK K
            try simp only [Act.put, List.setIfInBounds_toArray, List.set_cons_zero, List.set_cons_succ]
            generalize V143.alloc (.cells #[.map none] 110) = V1435 at *
            have e1_V1435 := Lib.hid (EntK.below e1_V143.out hbn)
            clear e1_V143
            have st4_V1435 := Lib.hid (st4_V143.out.below hbn st4_V143.out.lt)
            clear st4_V143
            have e3_V1435 := Lib.hid (EntK.below e3_V143.out hbn)
            clear e3_V143
            have st5_V1435 := Lib.hid hBn
            clear hBn
            clear hbn
            have cB := st4_V1435.out.cell 0
            simp only [List.getElem?_toArray, List.getElem?_cons_zero] at cB
            have fB := st4_V1435.out.frozen 0
            have lB := st4_V1435.out.lt
            refine wpAnyH_ready (rs := [6]) (by kernel_rfl) (by simp) ?_
            refine AllReadyH.cons rfl (fun K hK => ?_) AllReadyH.nil
            go_simp
            refine hK.out _ _ (hS.setCell (by show W0.heap.size ≤ V1.heap.size; exact P4.out) _) (fun hS => ?_)
            clear hK K
            try simp only [Act.put, List.setIfInBounds_toArray, List.set_cons_zero, List.set_cons_succ]
            have b4 := Lib.hid (st4_V1435.out.set_ 0 (.map (some mb1)))
            have b5 := Lib.hid (st5_V1435.out.far (p := ⟨V1.heap.size, 0, none⟩) (by show V143.heap.size ≠ V1.heap.size; have := NE.out; omega) (.map (some mb1)))
            have e1 := Lib.hid (EntK.cell e1_V1435.out st4_V1435.out (.map (some mb1)))
            have e3 := Lib.hid (EntK.cell e3_V1435.out st4_V1435.out (.map (some mb1)))
            clear cB fB lB
            generalize V1435.setCell ⟨V1.heap.size, 0, none⟩ (.map (some mb1)) = V1435s at *
            have cB := b5.out.cell 0
            simp only [List.getElem?_toArray, List.getElem?_cons_zero] at cB
            have fB := b5.out.frozen 0
            have lB := b5.out.lt
            refine wpAnyH_ready (rs := [7]) (by kernel_rfl) (by simp) ?_
            refine AllReadyH.cons rfl (fun K hK => ?_) AllReadyH.nil
            go_simp
            refine hK.out _ _ (hS.setCell (by show W0.heap.size ≤ V143.heap.size; exact P5.out) _) (fun hS => ?_)
            clear hK K
            try simp only [Act.put, List.setIfInBounds_toArray, List.set_cons_zero, List.set_cons_succ]
            have HR := Lib.hid (show Ents (V1435s.setCell ⟨V143.heap.size, 0, none⟩ (.map (some mb3))) (V1.heap.size) (V143.heap.size) m m' ∧ Below W0.heap.size W0 (V1435s.setCell ⟨V143.heap.size, 0, none⟩ (.map (some mb3))) from ⟨⟨⟨mb1, b4.out.far (p := ⟨V143.heap.size, 0, none⟩) (by show V1.heap.size ≠ V143.heap.size; have := NE.out; omega) _, EntK.cell e1.out b5.out _⟩, ⟨mb3, b5.out.set_ 0 _, EntK.cell e3.out b5.out _⟩⟩, hS⟩)
            clear cB fB lB hS
            refine wpAnyH_done (by kernel_rfl) ?_ _
            go_wp2_with (fail)
            go_meet
            case rel => exact ⟨_, _, rfl, rfl, HR⟩
        · have hbn := bl_new (Below.refl V14.heap.size V14) (.cells #[.map none] 110)
          have hBn := Blk.new V14 110 #[.map none]
          have P5 := Lib.hid hS.size
          have NE := Lib.hid (show V1.heap.size < V14.heap.size from st4_V14.out.lt)
          go_simp
          refine hK.out _ _ (bl_step hS hbn) (fun hS => ?_)
          clear hK K
          try simp only [Act.put, List.setIfInBounds_toArray, List.set_cons_zero, List.set_cons_succ]
          generalize V14.alloc (.cells #[.map none] 110) = V145 at *
          have e1_V145 := Lib.hid (EntK.below e1_V14.out hbn)
          clear e1_V14
          have st4_V145 := Lib.hid (st4_V14.out.below hbn st4_V14.out.lt)
          clear st4_V14
          have st5_V145 := Lib.hid hBn
          clear hBn
          clear hbn
          refine wpAnyH_ready (rs := [3]) (by kernel_rfl) (by simp) ?_
          refine AllReadyH.cons rfl (fun K hK => ?_) AllReadyH.nil
          · go_simp
            refine (HC3.out _ hS).mono ?_
            rintro e V1453 ⟨mb3, rfl, hE, hbn⟩
            refine hK.out _ _ (bl_step hS hbn) (fun hS => ?_)
            clear hK K
            try simp only [Act.put, List.setIfInBounds_toArray, List.set_cons_zero, List.set_cons_succ]
            have e1_V1453 := Lib.hid (EntK.below e1_V145.out hbn)
            clear e1_V145
            have st4_V1453 := Lib.hid (st4_V145.out.below hbn st4_V145.out.lt)
            clear st4_V145
            have st5_V1453 := Lib.hid (st5_V145.out.below hbn st5_V145.out.lt)
            clear st5_V145
            have e3_V1453 := Lib.hid hE
            clear hE
            clear hbn
            have cB := st4_V1453.out.cell 0
            simp only [List.getElem?_toArray, List.getElem?_cons_zero] at cB
            have fB := st4_V1453.out.frozen 0
            have lB := st4_V1453.out.lt
            refine wpAnyH_ready (rs := [6]) (by kernel_rfl) (by simp) ?_
            refine AllReadyH.cons rfl (fun K hK => ?_) AllReadyH.nil
            go_simp
            refine hK.out _ _ (hS.setCell (by show W0.heap.size ≤ V1.heap.size; exact P4.out) _) (fun hS => ?_)
            clear hK K
            try simp only [Act.put, List.setIfInBounds_toArray, List.set_cons_zero, List.set_cons_succ]
            have b4 := Lib.hid (st4_V1453.out.set_ 0 (.map (some mb1)))
            have b5 := Lib.hid (st5_V1453.out.far (p := ⟨V1.heap.size, 0, none⟩) (by show V14.heap.size ≠ V1.heap.size; have := NE.out; omega) (.map (some mb1)))
            have e1 := Lib.hid (EntK.cell e1_V1453.out st4_V1453.out (.map (some mb1)))
            have e3 := Lib.hid (EntK.cell e3_V1453.out st4_V1453.out (.map (some mb1)))
            clear cB fB lB
            generalize V1453.setCell ⟨V1.heap.size, 0, none⟩ (.map (some mb1)) = V1453s at *
            have cB := b5.out.cell 0
            simp only [List.getElem?_toArray, List.getElem?_cons_zero] at cB
            have fB := b5.out.frozen 0
            have lB := b5.out.lt
            refine wpAnyH_ready (rs := [7]) (by kernel_rfl) (by simp) ?_
            refine AllReadyH.cons rfl (fun K hK => ?_) AllReadyH.nil
            go_simp
            refine hK.out _ _ (hS.setCell (by show W0.heap.size ≤ V14.heap.size; exact P5.out) _) (fun hS => ?_)
            clear hK K
            try simp only [Act.put, List.setIfInBounds_toArray, List.set_cons_zero, List.set_cons_succ]
            have HR := Lib.hid (show Ents (V1453s.setCell ⟨V14.heap.size, 0, none⟩ (.map (some mb3))) (V1.heap.size) (V14.heap.size) m m' ∧ Below W0.heap.size W0 (V1453s.setCell ⟨V14.heap.size, 0, none⟩ (.map (some mb3))) from ⟨⟨⟨mb1, b4.out.far (p := ⟨V14.heap.size, 0, none⟩) (by show V1.heap.size ≠ V14.heap.size; have := NE.out; omega) _, EntK.cell e1.out b5.out _⟩, ⟨mb3, b5.out.set_ 0 _, EntK.cell e3.out b5.out _⟩⟩, hS⟩)
            clear cB fB lB hS
            refine wpAnyH_done (by kernel_rfl) ?_ _
            go_wp2_with (fail)
            go_meet
            case rel => exact ⟨_, _, rfl, rfl, HR⟩
      · have hbn := bl_new (Below.refl V1.heap.size V1) (.cells #[.map none] 110)
        have hBn := Blk.new V1 110 #[.map none]
        have P5 := Lib.hid hS.size
        go_simp
        refine hK.out _ _ (bl_step hS hbn) (fun hS => ?_)
        clear hK K
        try simp only [Act.put, List.setIfInBounds_toArray, List.set_cons_zero, List.set_cons_succ]
        generalize V1.alloc (.cells #[.map none] 110) = V15 at *
        have e1_V15 := Lib.hid (EntK.below e1_V1.out hbn)
        clear e1_V1
        have st5_V15 := Lib.hid hBn
        clear hBn
        clear hbn
        refine wpAnyH_ready (rs := [3, 4]) (by kernel_rfl) (by simp) ?_
        refine AllReadyH.cons rfl (fun K hK => ?_) (AllReadyH.cons rfl (fun K hK => ?_) AllReadyH.nil)
        · go_simp
          refine (HC3.out _ hS).mono ?_
          rintro e V153 ⟨mb3, rfl, hE, hbn⟩
          refine hK.out _ _ (bl_step hS hbn) (fun hS => ?_)
          clear hK K
          try simp only [Act.put, List.setIfInBounds_toArray, List.set_cons_zero, List.set_cons_succ]
          have e1_V153 := Lib.hid (EntK.below e1_V15.out hbn)
          clear e1_V15
          have st5_V153 := Lib.hid (st5_V15.out.below hbn st5_V15.out.lt)
          clear st5_V15
          have e3_V153 := Lib.hid hE
          clear hE
          clear hbn
          refine wpAnyH_ready (rs := [4]) (by kernel_rfl) (by simp) ?_
          refine AllReadyH.cons rfl (fun K hK => ?_) AllReadyH.nil
          · have hbn := bl_new (Below.refl V153.heap.size V153) (.cells #[.map none] 110)
            have hBn := Blk.new V153 110 #[.map none]
            have P4 := Lib.hid hS.size
            have NE := Lib.hid (show V1.heap.size < V153.heap.size from st5_V153.out.lt)
            go_simp
            refine hK.out _ _ (bl_step hS hbn) (fun hS => ?_)
            clear hK K
            try simp only [Act.put, List.setIfInBounds_toArray, List.set_cons_zero, List.set_cons_succ]
            generalize V153.alloc (.cells #[.map none] 110) = V1534 at *
            have e1_V1534 := Lib.hid (EntK.below e1_V153.out hbn)
            clear e1_V153
            have st5_V1534 := Lib.hid (st5_V153.out.below hbn st5_V153.out.lt)
            clear st5_V153
            have e3_V1534 := Lib.hid (EntK.below e3_V153.out hbn)
            clear e3_V153
            have st4_V1534 := Lib.hid hBn
            clear hBn
            clear hbn
            have cB := st4_V1534.out.cell 0
            simp only [List.getElem?_toArray, List.getElem?_cons_zero] at cB
            have fB := st4_V1534.out.frozen 0
            have lB := st4_V1534.out.lt
            refine wpAnyH_ready (rs := [6]) (by kernel_rfl) (by simp) ?_
            refine AllReadyH.cons rfl (fun K hK => ?_) AllReadyH.nil
            go_simp
            refine hK.out _ _ (hS.setCell (by show W0.heap.size ≤ V153.heap.size; exact P4.out) _) (fun hS => ?_)
            clear hK K
            try simp only [Act.put, List.setIfInBounds_toArray, List.set_cons_zero, List.set_cons_succ]
            have b4 := Lib.hid (st4_V1534.out.set_ 0 (.map (some mb1)))
            have b5 := Lib.hid (st5_V1534.out.far (p := ⟨V153.heap.size, 0, none⟩) (by show V1.heap.size ≠ V153.heap.size; have := NE.out; omega) (.map (some mb1)))
            have e1 := Lib.hid (EntK.cell e1_V1534.out st4_V1534.out (.map (some mb1)))
            have e3 := Lib.hid (EntK.cell e3_V1534.out st4_V1534.out (.map (some mb1)))
            clear cB fB lB
            generalize V1534.setCell ⟨V153.heap.size, 0, none⟩ (.map (some mb1)) = V1534s at *
            have cB := b5.out.cell 0
            simp only [List.getElem?_toArray, List.getElem?_cons_zero] at cB
            have fB := b5.out.frozen 0
            have lB := b5.out.lt
            refine wpAnyH_ready (rs := [7]) (by kernel_rfl) (by simp) ?_
            refine AllReadyH.cons rfl (fun K hK => ?_) AllReadyH.nil
            go_simp
            refine hK.out _ _ (hS.setCell (by show W0.heap.size ≤ V1.heap.size; exact P5.out) _) (fun hS => ?_)
            clear hK K
            try simp only [Act.put, List.setIfInBounds_toArray, List.set_cons_zero, List.set_cons_succ]
            have HR := Lib.hid (show Ents (V1534s.setCell ⟨V1.heap.size, 0, none⟩ (.map (some mb3))) (V153.heap.size) (V1.heap.size) m m' ∧ Below W0.heap.size W0 (V1534s.setCell ⟨V1.heap.size, 0, none⟩ (.map (some mb3))) from ⟨⟨⟨mb1, b4.out.far (p := ⟨V1.heap.size, 0, none⟩) (by show V153.heap.size ≠ V1.heap.size; have := NE.out; omega) _, EntK.cell e1.out b5.out _⟩, ⟨mb3, b5.out.set_ 0 _, EntK.cell e3.out b5.out _⟩⟩, hS⟩)
            clear cB fB lB hS
            refine wpAnyH_done (by kernel_rfl) ?_ _
            go_wp2_with (fail)
            go_meet
            case rel => exact ⟨_, _, rfl, rfl, HR⟩
        · have hbn := bl_new (Below.refl V15.heap.size V15) (.cells #[.map none] 110)
          have hBn := Blk.new V15 110 #[.map none]
          have P4 := Lib.hid hS.size
          have NE := Lib.hid (show V1.heap.size < V15.heap.size from st5_V15.out.lt)
          go_simp
          refine hK.out _ _ (bl_step hS hbn) (fun hS => ?_)
          clear hK K
          try simp only [Act.put, List.setIfInBounds_toArray, List.set_cons_zero, List.set_cons_succ]
          generalize V15.alloc (.cells #[.map none] 110) = V154 at *
          have e1_V154 := Lib.hid (EntK.below e1_V15.out hbn)
          clear e1_V15
          have st5_V154 := Lib.hid (st5_V15.out.below hbn st5_V15.out.lt)
          clear st5_V15
          have st4_V154 := Lib.hid hBn
          clear hBn
          clear hbn
          refine wpAnyH_ready (rs := [3]) (by kernel_rfl) (by simp) ?_
          refine AllReadyH.cons rfl (fun K hK => ?_) AllReadyH.nil
          · go_simp
            refine (HC3.out _ hS).mono ?_
            rintro e V1543 ⟨mb3, rfl, hE, hbn⟩
            refine hK.out _ _ (bl_step hS hbn) (fun hS => ?_)
            clear hK K
            try simp only [Act.put, List.setIfInBounds_toArray, List.set_cons_zero, List.set_cons_succ]
            have e1_V1543 := Lib.hid (EntK.below e1_V154.out hbn)
            clear e1_V154
            have st5_V1543 := Lib.hid (st5_V154.out.below hbn st5_V154.out.lt)
            clear st5_V154
            have st4_V1543 := Lib.hid (st4_V154.out.below hbn st4_V154.out.lt)
            clear st4_V154
            have e3_V1543 := Lib.hid hE
            clear hE
            clear hbn
            have cB := st4_V1543.out.cell 0
            simp only [List.getElem?_toArray, List.getElem?_cons_zero] at cB
            have fB := st4_V1543.out.frozen 0
            have lB := st4_V1543.out.lt
            refine wpAnyH_ready (rs := [6]) (by kernel_rfl) (by simp) ?_
            refine AllReadyH.cons rfl (fun K hK => ?_) AllReadyH.nil
            go_simp
            refine hK.out _ _ (hS.setCell (by show W0.heap.size ≤ V15.heap.size; exact P4.out) _) (fun hS => ?_)
            clear hK K
            try simp only [Act.put, List.setIfInBounds_toArray, List.set_cons_zero, List.set_cons_succ]
            have b4 := Lib.hid (st4_V1543.out.set_ 0 (.map (some mb1)))
            have b5 := Lib.hid (st5_V1543.out.far (p := ⟨V15.heap.size, 0, none⟩) (by show V1.heap.size ≠ V15.heap.size; have := NE.out; omega) (.map (some mb1)))
            have e1 := Lib.hid (EntK.cell e1_V1543.out st4_V1543.out (.map (some mb1)))
            have e3 := Lib.hid (EntK.cell e3_V1543.out st4_V1543.out (.map (some mb1)))
            clear cB fB lB
            generalize V1543.setCell ⟨V15.heap.size, 0, none⟩ (.map (some mb1)) = V1543s at *
            have cB := b5.out.cell 0
            simp only [List.getElem?_toArray, List.getElem?_cons_zero] at cB
            have fB := b5.out.frozen 0
            have lB := b5.out.lt
            refine wpAnyH_ready (rs := [7]) (by kernel_rfl) (by simp) ?_
            refine AllReadyH.cons rfl (fun K hK => ?_) AllReadyH.nil
            go_simp
            refine hK.out _ _ (hS.setCell (by show W0.heap.size ≤ V1.heap.size; exact P5.out) _) (fun hS => ?_)
            clear hK K
            try simp only [Act.put, List.setIfInBounds_toArray, List.set_cons_zero, List.set_cons_succ]
            have HR := Lib.hid (show Ents (V1543s.setCell ⟨V1.heap.size, 0, none⟩ (.map (some mb3))) (V15.heap.size) (V1.heap.size) m m' ∧ Below W0.heap.size W0 (V1543s.setCell ⟨V1.heap.size, 0, none⟩ (.map (some mb3))) from ⟨⟨⟨mb1, b4.out.far (p := ⟨V1.heap.size, 0, none⟩) (by show V15.heap.size ≠ V1.heap.size; have := NE.out; omega) _, EntK.cell e1.out b5.out _⟩, ⟨mb3, b5.out.set_ 0 _, EntK.cell e3.out b5.out _⟩⟩, hS⟩)
            clear cB fB lB hS
            refine wpAnyH_done (by kernel_rfl) ?_ _
            go_wp2_with (fail)
            go_meet
            case rel => exact ⟨_, _, rfl, rfl, HR⟩
    · have hbn := bl_new (Below.refl V.heap.size V) (.cells #[.map none] 110)
      have hBn := Blk.new V 110 #[.map none]
      have P4 := Lib.hid hS.size
      go_simp
      refine hK.out _ _ (bl_step hS hbn) (fun hS => ?_)
      clear hK K
      try simp only [Act.put, List.setIfInBounds_toArray, List.set_cons_zero, List.set_cons_succ]
      generalize V.alloc (.cells #[.map none] 110) = V4 at *
      have st4_V4 := Lib.hid hBn
      clear hBn
      clear hbn
      refine wpAnyH_ready (rs := [1, 5]) (by kernel_rfl) (by simp) ?_
      refine AllReadyH.cons rfl (fun K hK => ?_) (AllReadyH.cons rfl (fun K hK => ?_) AllReadyH.nil)
      · go_simp
        refine (HC1.out _ hS).mono ?_
        rintro e V41 ⟨mb1, rfl, hE, hbn⟩
        refine hK.out _ _ (bl_step hS hbn) (fun hS => ?_)
        clear hK K
        try simp only [Act.put, List.setIfInBounds_toArray, List.set_cons_zero, List.set_cons_succ]
        have st4_V41 := Lib.hid (st4_V4.out.below hbn st4_V4.out.lt)
        clear st4_V4
        have e1_V41 := Lib.hid hE
        clear hE
        clear hbn
        refine wpAnyH_ready (rs := [3, 5]) (by kernel_rfl) (by simp) ?_
        refine AllReadyH.cons rfl (fun K hK => ?_) (AllReadyH.cons rfl (fun K hK => ?_) AllReadyH.nil)
        · go_simp
          refine (HC3.out _ hS).mono ?_
          rintro e V413 ⟨mb3, rfl, hE, hbn⟩
          refine hK.out _ _ (bl_step hS hbn) (fun hS => ?_)
          clear hK K
          try simp only [Act.put, List.setIfInBounds_toArray, List.set_cons_zero, List.set_cons_succ]
          have st4_V413 := Lib.hid (st4_V41.out.below hbn st4_V41.out.lt)
          clear st4_V41
          have e1_V413 := Lib.hid (EntK.below e1_V41.out hbn)
          clear e1_V41
          have e3_V413 := Lib.hid hE
          clear hE
          clear hbn
          refine wpAnyH_ready (rs := [5]) (by kernel_rfl) (by simp) ?_
          refine AllReadyH.cons rfl (fun K hK => ?_) AllReadyH.nil
          · have hbn := bl_new (Below.refl V413.heap.size V413) (.cells #[.map none] 110)
            have hBn := Blk.new V413 110 #[.map none]
            have P5 := Lib.hid hS.size
            have NE := Lib.hid (show V.heap.size < V413.heap.size from st4_V413.out.lt)
            go_simp
            refine hK.out _ _ (bl_step hS hbn) (fun hS => ?_)
            clear hK K
            try simp only [Act.put, List.setIfInBounds_toArray, List.set_cons_zero, List.set_cons_succ]
            generalize V413.alloc (.cells #[.map none] 110) = V4135 at *
            have st4_V4135 := Lib.hid (st4_V413.out.below hbn st4_V413.out.lt)
            clear st4_V413
            have e1_V4135 := Lib.hid (EntK.below e1_V413.out hbn)
            clear e1_V413
            have e3_V4135 := Lib.hid (EntK.below e3_V413.out hbn)
            clear e3_V413
            have st5_V4135 := Lib.hid hBn
            clear hBn
            clear hbn
            have cB := st4_V4135.out.cell 0
            simp only [List.getElem?_toArray, List.getElem?_cons_zero] at cB
            have fB := st4_V4135.out.frozen 0
            have lB := st4_V4135.out.lt
            refine wpAnyH_ready (rs := [6]) (by kernel_rfl) (by simp) ?_
            refine AllReadyH.cons rfl (fun K hK => ?_) AllReadyH.nil
            go_simp
            refine hK.out _ _ (hS.setCell (by show W0.heap.size ≤ V.heap.size; exact P4.out) _) (fun hS => ?_)
            clear hK K
            try simp only [Act.put, List.setIfInBounds_toArray, List.set_cons_zero, List.set_cons_succ]
            have b4 := Lib.hid (st4_V4135.out.set_ 0 (.map (some mb1)))
            have b5 := Lib.hid (st5_V4135.out.far (p := ⟨V.heap.size, 0, none⟩) (by show V413.heap.size ≠ V.heap.size; have := NE.out; omega) (.map (some mb1)))
            have e1 := Lib.hid (EntK.cell e1_V4135.out st4_V4135.out (.map (some mb1)))
            have e3 := Lib.hid (EntK.cell e3_V4135.out st4_V4135.out (.map (some mb1)))
            clear cB fB lB
            generalize V4135.setCell ⟨V.heap.size, 0, none⟩ (.map (some mb1)) = V4135s at *
            have cB := b5.out.cell 0
            simp only [List.getElem?_toArray, List.getElem?_cons_zero] at cB
            have fB := b5.out.frozen 0
            have lB := b5.out.lt
            refine wpAnyH_ready (rs := [7]) (by kernel_rfl) (by simp) ?_
            refine AllReadyH.cons rfl (fun K hK => ?_) AllReadyH.nil
            go_simp
            refine hK.out _ _ (hS.setCell (by show W0.heap.size ≤ V413.heap.size; exact P5.out) _) (fun hS => ?_)
            clear hK K
            try simp only [Act.put, List.setIfInBounds_toArray, List.set_cons_zero, List.set_cons_succ]
            have HR := Lib.hid (show Ents (V4135s.setCell ⟨V413.heap.size, 0, none⟩ (.map (some mb3))) (V.heap.size) (V413.heap.size) m m' ∧ Below W0.heap.size W0 (V4135s.setCell ⟨V413.heap.size, 0, none⟩ (.map (some mb3))) from ⟨⟨⟨mb1, b4.out.far (p := ⟨V413.heap.size, 0, none⟩) (by show V.heap.size ≠ V413.heap.size; have := NE.out; omega) _, EntK.cell e1.out b5.out _⟩, ⟨mb3, b5.out.set_ 0 _, EntK.cell e3.out b5.out _⟩⟩, hS⟩)
            clear cB fB lB hS
            refine wpAnyH_done (by kernel_rfl) ?_ _
            go_wp2_with (fail)
            go_meet
            case rel => exact ⟨_, _, rfl, rfl, HR⟩
        · have hbn := bl_new (Below.refl V41.heap.size V41) (.cells #[.map none] 110)
          have hBn := Blk.new V41 110 #[.map none]
          have P5 := Lib.hid hS.size
          have NE := Lib.hid (show V.heap.size < V41.heap.size from st4_V41.out.lt)
          go_simp
          refine hK.out _ _ (bl_step hS hbn) (fun hS => ?_)
          clear hK K
          try simp only [Act.put, List.setIfInBounds_toArray, List.set_cons_zero, List.set_cons_succ]
          generalize V41.alloc (.cells #[.map none] 110) = V415 at *
          have st4_V415 := Lib.hid (st4_V41.out.below hbn st4_V41.out.lt)
          clear st4_V41
          have e1_V415 := Lib.hid (EntK.below e1_V41.out hbn)
          clear e1_V41
          have st5_V415 := Lib.hid hBn
          clear hBn
          clear hbn
          refine wpAnyH_ready (rs := [3]) (by kernel_rfl) (by simp) ?_
          refine AllReadyH.cons rfl (fun K hK => ?_) AllReadyH.nil
          · go_simp
            refine (HC3.out _ hS).mono ?_
            rintro e V4153 ⟨mb3, rfl, hE, hbn⟩
            refine hK.out _ _ (bl_step hS hbn) (fun hS => ?_)
            clear hK K
            try simp only [Act.put, List.setIfInBounds_toArray, List.set_cons_zero, List.set_cons_succ]
            have st4_V4153 := Lib.hid (st4_V415.out.below hbn st4_V415.out.lt)
            clear st4_V415
            have e1_V4153 := Lib.hid (EntK.below e1_V415.out hbn)
            clear e1_V415
            have st5_V4153 := Lib.hid (st5_V415.out.below hbn st5_V415.out.lt)
            clear st5_V415
            have e3_V4153 := Lib.hid hE
            clear hE
            clear hbn
            have cB := st4_V4153.out.cell 0
            simp only [List.getElem?_toArray, List.getElem?_cons_zero] at cB
            have fB := st4_V4153.out.frozen 0
            have lB := st4_V4153.out.lt
            refine wpAnyH_ready (rs := [6]) (by kernel_rfl) (by simp) ?_
            refine AllReadyH.cons rfl (fun K hK => ?_) AllReadyH.nil
            go_simp
            refine hK.out _ _ (hS.setCell (by show W0.heap.size ≤ V.heap.size; exact P4.out) _) (fun hS => ?_)
            clear hK K
            try simp only [Act.put, List.setIfInBounds_toArray, List.set_cons_zero, List.set_cons_succ]
            have b4 := Lib.hid (st4_V4153.out.set_ 0 (.map (some mb1)))
            have b5 := Lib.hid (st5_V4153.out.far (p := ⟨V.heap.size, 0, none⟩) (by show V41.heap.size ≠ V.heap.size; have := NE.out; omega) (.map (some mb1)))
            have e1 := Lib.hid (EntK.cell e1_V4153.out st4_V4153.out (.map (some mb1)))
            have e3 := Lib.hid (EntK.cell e3_V4153.out st4_V4153.out (.map (some mb1)))
            clear cB fB lB
            generalize V4153.setCell ⟨V.heap.size, 0, none⟩ (.map (some mb1)) = V4153s at *
            have cB := b5.out.cell 0
            simp only [List.getElem?_toArray, List.getElem?_cons_zero] at cB
            have fB := b5.out.frozen 0
            have lB := b5.out.lt
            refine wpAnyH_ready (rs := [7]) (by kernel_rfl) (by simp) ?_
            refine AllReadyH.cons rfl (fun K hK => ?_) AllReadyH.nil
            go_simp
            refine hK.out _ _ (hS.setCell (by show W0.heap.size ≤ V41.heap.size; exact P5.out) _) (fun hS => ?_)
            clear hK K
            try simp only [Act.put, List.setIfInBounds_toArray, List.set_cons_zero, List.set_cons_succ]
            have HR := Lib.hid (show Ents (V4153s.setCell ⟨V41.heap.size, 0, none⟩ (.map (some mb3))) (V.heap.size) (V41.heap.size) m m' ∧ Below W0.heap.size W0 (V4153s.setCell ⟨V41.heap.size, 0, none⟩ (.map (some mb3))) from ⟨⟨⟨mb1, b4.out.far (p := ⟨V41.heap.size, 0, none⟩) (by show V.heap.size ≠ V41.heap.size; have := NE.out; omega) _, EntK.cell e1.out b5.out _⟩, ⟨mb3, b5.out.set_ 0 _, EntK.cell e3.out b5.out _⟩⟩, hS⟩)
            clear cB fB lB hS
            refine wpAnyH_done (by kernel_rfl) ?_ _
            go_wp2_with (fail)
            go_meet
            case rel => exact ⟨_, _, rfl, rfl, HR⟩
      · have hbn := bl_new (Below.refl V4.heap.size V4) (.cells #[.map none] 110)
        have hBn := Blk.new V4 110 #[.map none]
        have P5 := Lib.hid hS.size
        have NE := Lib.hid (show V.heap.size < V4.heap.size from st4_V4.out.lt)
        go_simp
        refine hK.out _ _ (bl_step hS hbn) (fun hS => ?_)
        clear hK K
        try simp only [Act.put, List.setIfInBounds_toArray, List.set_cons_zero, List.set_cons_succ]
        generalize V4.alloc (.cells #[.map none] 110) = V45 at *
        have st4_V45 := Lib.hid (st4_V4.out.below hbn st4_V4.out.lt)
        clear st4_V4
        have st5_V45 := Lib.hid hBn
        clear hBn
        clear hbn
        refine wpAnyH_ready (rs := [1]) (by kernel_rfl) (by simp) ?_
        refine AllReadyH.cons rfl (fun K hK => ?_) AllReadyH.nil
        · go_simp
          refine (HC1.out _ hS).mono ?_
          rintro e V451 ⟨mb1, rfl, hE, hbn⟩
          refine hK.out _ _ (bl_step hS hbn) (fun hS => ?_)
          clear hK K
          try simp only [Act.put, List.setIfInBounds_toArray, List.set_cons_zero, List.set_cons_succ]
          have st4_V451 := Lib.hid (st4_V45.out.below hbn st4_V45.out.lt)
          clear st4_V45
          have st5_V451 := Lib.hid (st5_V45.out.below hbn st5_V45.out.lt)
          clear st5_V45
          have e1_V451 := Lib.hid hE
          clear hE
          clear hbn
          refine wpAnyH_ready (rs := [3]) (by kernel_rfl) (by simp) ?_
          refine AllReadyH.cons rfl (fun K hK => ?_) AllReadyH.nil
          · go_simp
            refine (HC3.out _ hS).mono ?_
            rintro e V4513 ⟨mb3, rfl, hE, hbn⟩
            refine hK.out _ _ (bl_step hS hbn) (fun hS => ?_)
            clear hK K
            try simp only [Act.put, List.setIfInBounds_toArray, List.set_cons_zero, List.set_cons_succ]
            have st4_V4513 := Lib.hid (st4_V451.out.below hbn st4_V451.out.lt)
            clear st4_V451
            have st5_V4513 := Lib.hid (st5_V451.out.below hbn st5_V451.out.lt)
            clear st5_V451
            have e1_V4513 := Lib.hid (EntK.below e1_V451.out hbn)
            clear e1_V451
            have e3_V4513 := Lib.hid hE
            clear hE
            clear hbn
            have cB := st4_V4513.out.cell 0
            simp only [List.getElem?_toArray, List.getElem?_cons_zero] at cB
            have fB := st4_V4513.out.frozen 0
            have lB := st4_V4513.out.lt
            refine wpAnyH_ready (rs := [6]) (by kernel_rfl) (by simp) ?_
            refine AllReadyH.cons rfl (fun K hK => ?_) AllReadyH.nil
            go_simp
            refine hK.out _ _ (hS.setCell (by show W0.heap.size ≤ V.heap.size; exact P4.out) _) (fun hS => ?_)
            clear hK K
            try simp only [Act.put, List.setIfInBounds_toArray, List.set_cons_zero, List.set_cons_succ]
            have b4 := Lib.hid (st4_V4513.out.set_ 0 (.map (some mb1)))
            have b5 := Lib.hid (st5_V4513.out.far (p := ⟨V.heap.size, 0, none⟩) (by show V4.heap.size ≠ V.heap.size; have := NE.out; omega) (.map (some mb1)))
            have e1 := Lib.hid (EntK.cell e1_V4513.out st4_V4513.out (.map (some mb1)))
            have e3 := Lib.hid (EntK.cell e3_V4513.out st4_V4513.out (.map (some mb1)))
            clear cB fB lB
            generalize V4513.setCell ⟨V.heap.size, 0, none⟩ (.map (some mb1)) = V4513s at *
            have cB := b5.out.cell 0
            simp only [List.getElem?_toArray, List.getElem?_cons_zero] at cB
            have fB := b5.out.frozen 0
            have lB := b5.out.lt
            refine wpAnyH_ready (rs := [7]) (by kernel_rfl) (by simp) ?_
            refine AllReadyH.cons rfl (fun K hK => ?_) AllReadyH.nil
            go_simp
            refine hK.out _ _ (hS.setCell (by show W0.heap.size ≤ V4.heap.size; exact P5.out) _) (fun hS => ?_)
            clear hK K
            try simp only [Act.put, List.setIfInBounds_toArray, List.set_cons_zero, List.set_cons_succ]
            have HR := Lib.hid (show Ents (V4513s.setCell ⟨V4.heap.size, 0, none⟩ (.map (some mb3))) (V.heap.size) (V4.heap.size) m m' ∧ Below W0.heap.size W0 (V4513s.setCell ⟨V4.heap.size, 0, none⟩ (.map (some mb3))) from ⟨⟨⟨mb1, b4.out.far (p := ⟨V4.heap.size, 0, none⟩) (by show V.heap.size ≠ V4.heap.size; have := NE.out; omega) _, EntK.cell e1.out b5.out _⟩, ⟨mb3, b5.out.set_ 0 _, EntK.cell e3.out b5.out _⟩⟩, hS⟩)
            clear cB fB lB hS
            refine wpAnyH_done (by kernel_rfl) ?_ _
            go_wp2_with (fail)
            go_meet
            case rel => exact ⟨_, _, rfl, rfl, HR⟩
    · have hbn := bl_new (Below.refl V.heap.size V) (.cells #[.map none] 110)
      have hBn := Blk.new V 110 #[.map none]
      have P5 := Lib.hid hS.size
      go_simp
      refine hK.out _ _ (bl_step hS hbn) (fun hS => ?_)
      clear hK K
      try simp only [Act.put, List.setIfInBounds_toArray, List.set_cons_zero, List.set_cons_succ]
      generalize V.alloc (.cells #[.map none] 110) = V5 at *
      have st5_V5 := Lib.hid hBn
      clear hBn
      clear hbn
      refine wpAnyH_ready (rs := [1, 4]) (by kernel_rfl) (by simp) ?_
      refine AllReadyH.cons rfl (fun K hK => ?_) (AllReadyH.cons rfl (fun K hK => ?_) AllReadyH.nil)
      · go_simp
        refine (HC1.out _ hS).mono ?_
        rintro e V51 ⟨mb1, rfl, hE, hbn⟩
        refine hK.out _ _ (bl_step hS hbn) (fun hS => ?_)
        clear hK K
        try simp only [Act.put, List.setIfInBounds_toArray, List.set_cons_zero, List.set_cons_succ]
        have st5_V51 := Lib.hid (st5_V5.out.below hbn st5_V5.out.lt)
        clear st5_V5
        have e1_V51 := Lib.hid hE
        clear hE
        clear hbn
        refine wpAnyH_ready (rs := [3, 4]) (by kernel_rfl) (by simp) ?_
        refine AllReadyH.cons rfl (fun K hK => ?_) (AllReadyH.cons rfl (fun K hK => ?_) AllReadyH.nil)
        · go_simp
          refine (HC3.out _ hS).mono ?_
          rintro e V513 ⟨mb3, rfl, hE, hbn⟩
          refine hK.out _ _ (bl_step hS hbn) (fun hS => ?_)
          clear hK K
          try simp only [Act.put, List.setIfInBounds_toArray, List.set_cons_zero, List.set_cons_succ]
          have st5_V513 := Lib.hid (st5_V51.out.below hbn st5_V51.out.lt)
          clear st5_V51
          have e1_V513 := Lib.hid (EntK.below e1_V51.out hbn)
          clear e1_V51
          have e3_V513 := Lib.hid hE
          clear hE
          clear hbn
          refine wpAnyH_ready (rs := [4]) (by kernel_rfl) (by simp) ?_
          refine AllReadyH.cons rfl (fun K hK => ?_) AllReadyH.nil
          · have hbn := bl_new (Below.refl V513.heap.size V513) (.cells #[.map none] 110)
            have hBn := Blk.new V513 110 #[.map none]
            have P4 := Lib.hid hS.size
            have NE := Lib.hid (show V.heap.size < V513.heap.size from st5_V513.out.lt)
            go_simp
            refine hK.out _ _ (bl_step hS hbn) (fun hS => ?_)
            clear hK K
            try simp only [Act.put, List.setIfInBounds_toArray, List.set_cons_zero, List.set_cons_succ]
            generalize V513.alloc (.cells #[.map none] 110) = V5134 at *
            have st5_V5134 := Lib.hid (st5_V513.out.below hbn st5_V513.out.lt)
            clear st5_V513
            have e1_V5134 := Lib.hid (EntK.below e1_V513.out hbn)
            clear e1_V513
            have e3_V5134 := Lib.hid (EntK.below e3_V513.out hbn)
            clear e3_V513
            have st4_V5134 := Lib.hid hBn
            clear hBn
            clear hbn
            have cB := st4_V5134.out.cell 0
            simp only [List.getElem?_toArray, List.getElem?_cons_zero] at cB
            have fB := st4_V5134.out.frozen 0
            have lB := st4_V5134.out.lt
            refine wpAnyH_ready (rs := [6]) (by kernel_rfl) (by simp) ?_
            refine AllReadyH.cons rfl (fun K hK => ?_) AllReadyH.nil
            go_simp
            refine hK.out _ _ (hS.setCell (by show W0.heap.size ≤ V513.heap.size; exact P4.out) _) (fun hS => ?_)
            clear hK K
            try simp only [Act.put, List.setIfInBounds_toArray, List.set_cons_zero, List.set_cons_succ]
            have b4 := Lib.hid (st4_V5134.out.set_ 0 (.map (some mb1)))
            have b5 := Lib.hid (st5_V5134.out.far (p := ⟨V513.heap.size, 0, none⟩) (by show V.heap.size ≠ V513.heap.size; have := NE.out; omega) (.map (some mb1)))
            have e1 := Lib.hid (EntK.cell e1_V5134.out st4_V5134.out (.map (some mb1)))
            have e3 := Lib.hid (EntK.cell e3_V5134.out st4_V5134.out (.map (some mb1)))
            clear cB fB lB
            generalize V5134.setCell ⟨V513.heap.size, 0, none⟩ (.map (some mb1)) = V5134s at *
            have cB := b5.out.cell 0
            simp only [List.getElem?_toArray, List.getElem?_cons_zero] at cB
            have fB := b5.out.frozen 0
            have lB := b5.out.lt
            refine wpAnyH_ready (rs := [7]) (by kernel_rfl) (by simp) ?_
            refine AllReadyH.cons rfl (fun K hK => ?_) AllReadyH.nil
            go_simp
            refine hK.out _ _ (hS.setCell (by show W0.heap.size ≤ V.heap.size; exact P5.out) _) (fun hS => ?_)
            clear hK K
            try simp only [Act.put, List.setIfInBounds_toArray, List.set_cons_zero, List.set_cons_succ]
            have HR := Lib.hid (show Ents (V5134s.setCell ⟨V.heap.size, 0, none⟩ (.map (some mb3))) (V513.heap.size) (V.heap.size) m m' ∧ Below W0.heap.size W0 (V5134s.setCell ⟨V.heap.size, 0, none⟩ (.map (some mb3))) from ⟨⟨⟨mb1, b4.out.far (p := ⟨V.heap.size, 0, none⟩) (by show V513.heap.size ≠ V.heap.size; have := NE.out; omega) _, EntK.cell e1.out b5.out _⟩, ⟨mb3, b5.out.set_ 0 _, EntK.cell e3.out b5.out _⟩⟩, hS⟩)
            clear cB fB lB hS
            refine wpAnyH_done (by kernel_rfl) ?_ _
            go_wp2_with (fail)
            go_meet
            case rel => exact ⟨_, _, rfl, rfl, HR⟩
        · have hbn := bl_new (Below.refl V51.heap.size V51) (.cells #[.map none] 110)
          have hBn := Blk.new V51 110 #[.map none]
          have P4 := Lib.hid hS.size
          have NE := Lib.hid (show V.heap.size < V51.heap.size from st5_V51.out.lt)
          go_simp
          refine hK.out _ _ (bl_step hS hbn) (fun hS => ?_)
          clear hK K
          try simp only [Act.put, List.setIfInBounds_toArray, List.set_cons_zero, List.set_cons_succ]
          generalize V51.alloc (.cells #[.map none] 110) = V514 at *
          have st5_V514 := Lib.hid (st5_V51.out.below hbn st5_V51.out.lt)
          clear st5_V51
          have e1_V514 := Lib.hid (EntK.below e1_V51.out hbn)
          clear e1_V51
          have st4_V514 := Lib.hid hBn
          clear hBn
          clear hbn
          refine wpAnyH_ready (rs := [3]) (by kernel_rfl) (by simp) ?_
          refine AllReadyH.cons rfl (fun K hK => ?_) AllReadyH.nil
          · go_simp
            refine (HC3.out _ hS).mono ?_
            rintro e V5143 ⟨mb3, rfl, hE, hbn⟩
            refine hK.out _ _ (bl_step hS hbn) (fun hS => ?_)
            clear hK K
            try simp only [Act.put, List.setIfInBounds_toArray, List.set_cons_zero, List.set_cons_succ]
            have st5_V5143 := Lib.hid (st5_V514.out.below hbn st5_V514.out.lt)
            clear st5_V514
            have e1_V5143 := Lib.hid (EntK.below e1_V514.out hbn)
            clear e1_V514
            have st4_V5143 := Lib.hid (st4_V514.out.below hbn st4_V514.out.lt)
            clear st4_V514
            have e3_V5143 := Lib.hid hE
            clear hE
            clear hbn
            have cB := st4_V5143.out.cell 0
            simp only [List.getElem?_toArray, List.getElem?_cons_zero] at cB
            have fB := st4_V5143.out.frozen 0
            have lB := st4_V5143.out.lt
            refine wpAnyH_ready (rs := [6]) (by kernel_rfl) (by simp) ?_
            refine AllReadyH.cons rfl (fun K hK => ?_) AllReadyH.nil
            go_simp
            refine hK.out _ _ (hS.setCell (by show W0.heap.size ≤ V51.heap.size; exact P4.out) _) (fun hS => ?_)
            clear hK K
            try simp only [Act.put, List.setIfInBounds_toArray, List.set_cons_zero, List.set_cons_succ]
            have b4 := Lib.hid (st4_V5143.out.set_ 0 (.map (some mb1)))
            have b5 := Lib.hid (st5_V5143.out.far (p := ⟨V51.heap.size, 0, none⟩) (by show V.heap.size ≠ V51.heap.size; have := NE.out; omega) (.map (some mb1)))
            have e1 := Lib.hid (EntK.cell e1_V5143.out st4_V5143.out (.map (some mb1)))
            have e3 := Lib.hid (EntK.cell e3_V5143.out st4_V5143.out (.map (some mb1)))
            clear cB fB lB
            generalize V5143.setCell ⟨V51.heap.size, 0, none⟩ (.map (some mb1)) = V5143s at *
            have cB := b5.out.cell 0
            simp only [List.getElem?_toArray, List.getElem?_cons_zero] at cB
            have fB := b5.out.frozen 0
            have lB := b5.out.lt
            refine wpAnyH_ready (rs := [7]) (by kernel_rfl) (by simp) ?_
            refine AllReadyH.cons rfl (fun K hK => ?_) AllReadyH.nil
            go_simp
            refine hK.out _ _ (hS.setCell (by show W0.heap.size ≤ V.heap.size; exact P5.out) _) (fun hS => ?_)
            clear hK K
            try simp only [Act.put, List.setIfInBounds_toArray, List.set_cons_zero, List.set_cons_succ]
            have HR := Lib.hid (show Ents (V5143s.setCell ⟨V.heap.size, 0, none⟩ (.map (some mb3))) (V51.heap.size) (V.heap.size) m m' ∧ Below W0.heap.size W0 (V5143s.setCell ⟨V.heap.size, 0, none⟩ (.map (some mb3))) from ⟨⟨⟨mb1, b4.out.far (p := ⟨V.heap.size, 0, none⟩) (by show V51.heap.size ≠ V.heap.size; have := NE.out; omega) _, EntK.cell e1.out b5.out _⟩, ⟨mb3, b5.out.set_ 0 _, EntK.cell e3.out b5.out _⟩⟩, hS⟩)
            clear cB fB lB hS
            refine wpAnyH_done (by kernel_rfl) ?_ _
            go_wp2_with (fail)
            go_meet
            case rel => exact ⟨_, _, rfl, rfl, HR⟩
      · have hbn := bl_new (Below.refl V5.heap.size V5) (.cells #[.map none] 110)
        have hBn := Blk.new V5 110 #[.map none]
        have P4 := Lib.hid hS.size
        have NE := Lib.hid (show V.heap.size < V5.heap.size from st5_V5.out.lt)
        go_simp
        refine hK.out _ _ (bl_step hS hbn) (fun hS => ?_)
        clear hK K
        try simp only [Act.put, List.setIfInBounds_toArray, List.set_cons_zero, List.set_cons_succ]
        generalize V5.alloc (.cells #[.map none] 110) = V54 at *
        have st5_V54 := Lib.hid (st5_V5.out.below hbn st5_V5.out.lt)
        clear st5_V5
        have st4_V54 := Lib.hid hBn
        clear hBn
        clear hbn
        refine wpAnyH_ready (rs := [1]) (by kernel_rfl) (by simp) ?_
        refine AllReadyH.cons rfl (fun K hK => ?_) AllReadyH.nil
        · go_simp
          refine (HC1.out _ hS).mono ?_
          rintro e V541 ⟨mb1, rfl, hE, hbn⟩
          refine hK.out _ _ (bl_step hS hbn) (fun hS => ?_)
          clear hK K
          try simp only [Act.put, List.setIfInBounds_toArray, List.set_cons_zero, List.set_cons_succ]
          have st5_V541 := Lib.hid (st5_V54.out.below hbn st5_V54.out.lt)
          clear st5_V54
          have st4_V541 := Lib.hid (st4_V54.out.below hbn st4_V54.out.lt)
          clear st4_V54
          have e1_V541 := Lib.hid hE
          clear hE
          clear hbn
          refine wpAnyH_ready (rs := [3]) (by kernel_rfl) (by simp) ?_
          refine AllReadyH.cons rfl (fun K hK => ?_) AllReadyH.nil
          · go_simp
            refine (HC3.out _ hS).mono ?_
            rintro e V5413 ⟨mb3, rfl, hE, hbn⟩
            refine hK.out _ _ (bl_step hS hbn) (fun hS => ?_)
            clear hK K
            try simp only [Act.put, List.setIfInBounds_toArray, List.set_cons_zero, List.set_cons_succ]
            have st5_V5413 := Lib.hid (st5_V541.out.below hbn st5_V541.out.lt)
            clear st5_V541
            have st4_V5413 := Lib.hid (st4_V541.out.below hbn st4_V541.out.lt)
            clear st4_V541
            have e1_V5413 := Lib.hid (EntK.below e1_V541.out hbn)
            clear e1_V541
            have e3_V5413 := Lib.hid hE
            clear hE
            clear hbn
            have cB := st4_V5413.out.cell 0
            simp only [List.getElem?_toArray, List.getElem?_cons_zero] at cB
            have fB := st4_V5413.out.frozen 0
            have lB := st4_V5413.out.lt
            refine wpAnyH_ready (rs := [6]) (by kernel_rfl) (by simp) ?_
            refine AllReadyH.cons rfl (fun K hK => ?_) AllReadyH.nil
            go_simp
            refine hK.out _ _ (hS.setCell (by show W0.heap.size ≤ V5.heap.size; exact P4.out) _) (fun hS => ?_)
            clear hK K
            try simp only [Act.put, List.setIfInBounds_toArray, List.set_cons_zero, List.set_cons_succ]
            have b4 := Lib.hid (st4_V5413.out.set_ 0 (.map (some mb1)))
            have b5 := Lib.hid (st5_V5413.out.far (p := ⟨V5.heap.size, 0, none⟩) (by show V.heap.size ≠ V5.heap.size; have := NE.out; omega) (.map (some mb1)))
            have e1 := Lib.hid (EntK.cell e1_V5413.out st4_V5413.out (.map (some mb1)))
            have e3 := Lib.hid (EntK.cell e3_V5413.out st4_V5413.out (.map (some mb1)))
            clear cB fB lB
            generalize V5413.setCell ⟨V5.heap.size, 0, none⟩ (.map (some mb1)) = V5413s at *
            have cB := b5.out.cell 0
            simp only [List.getElem?_toArray, List.getElem?_cons_zero] at cB
            have fB := b5.out.frozen 0
            have lB := b5.out.lt
            refine wpAnyH_ready (rs := [7]) (by kernel_rfl) (by simp) ?_
            refine AllReadyH.cons rfl (fun K hK => ?_) AllReadyH.nil
            go_simp
            refine hK.out _ _ (hS.setCell (by show W0.heap.size ≤ V.heap.size; exact P5.out) _) (fun hS => ?_)
            clear hK K
            try simp only [Act.put, List.setIfInBounds_toArray, List.set_cons_zero, List.set_cons_succ]
            have HR := Lib.hid (show Ents (V5413s.setCell ⟨V.heap.size, 0, none⟩ (.map (some mb3))) (V5.heap.size) (V.heap.size) m m' ∧ Below W0.heap.size W0 (V5413s.setCell ⟨V.heap.size, 0, none⟩ (.map (some mb3))) from ⟨⟨⟨mb1, b4.out.far (p := ⟨V.heap.size, 0, none⟩) (by show V5.heap.size ≠ V.heap.size; have := NE.out; omega) _, EntK.cell e1.out b5.out _⟩, ⟨mb3, b5.out.set_ 0 _, EntK.cell e3.out b5.out _⟩⟩, hS⟩)
            clear cB fB lB hS
            refine wpAnyH_done (by kernel_rfl) ?_ _
            go_wp2_with (fail)
            go_meet
            case rel => exact ⟨_, _, rfl, rfl, HR⟩
  case rest =>
    obtain ⟨p1, p2, rfl, rfl, HR⟩ := hcut
    have HF1 := Lib.hid (fun W1 (hb : Below wc.heap.size wc W1) (k : Nat) (hk : k < 64) => first1_any (HH.out.below (bl_step HX.out.2.2 (bl_step HR.out.2 hb))) HO.out.1 (HH'.out.below (bl_step HX.out.2.2 (bl_step HR.out.2 hb))) HO.out.2 (HR.out.1.below hb) (HX.out.1.below (bl_step HR.out.2 hb) HX.out.1.lt) (HX.out.2.1.below (bl_step HR.out.2 hb) HX.out.2.1.lt) k hk)
    have HL := Lib.hid (bl_step HX.out.2.2 HR.out.2)
    clear HR HX HFX HC1 HC3 HH HH' HO
    go_wp2_with (fail)
    go_loopw [8, 14] (fun _ i wr => ∃ k : Nat, i = .int .i64 (k : Int) ∧ k ≤ 64 ∧ Hid (firstP F m F' m' = firstG F m F' m' (64 - k) k) ∧ Hid (Below wc.heap.size wc wr)) (fun _ i _ => 64 - (intOf i).toNat)
    case atStart => exact ⟨0, rfl, by omega, Lib.hid rfl, Lib.hid (Below.refl _ _)⟩
    case round =>
      obtain ⟨k, rfl, hk, HP, HB⟩ := hrel
      by_cases hkl : k < 64
      · have hki : (k : Int) < 64 := by omega
        have HC := Lib.hid (HF1.out _ HB.out k hkl)
        have HS := Lib.hid (show firstP F m F' m' = if sameP F m F' m' k = true then firstG F m F' m' (64 - (k + 1)) (k + 1) else (k : Int) from by
          rw [HP.out, show 64 - k = (64 - (k + 1)) + 1 by omega, firstG])
        clear HP
        generalize sameP F m F' m' k = sp at *
        go_wp2_with (fail)
        refine HC.out.mono ?_
        rintro e W5 ⟨rfl, h5⟩
        have H5 := Lib.hid (bl_step HB.out h5)
        clear h5 HC
        cases sp with
        | true =>
          have HS2 := Lib.hid (HS.out.trans (if_pos rfl))
          clear HS
          go_wp2
          exact ⟨⟨k + 1, by go_num, by omega, HS2, H5⟩, by simp [intOf]; omega⟩
        | false =>
          have HS2 := Lib.hid (HS.out.trans (if_neg (by decide)))
          go_wp2
          go_ret
          rw [HS2.out]
          exact ⟨rfl, bl_step HL.out H5.out⟩
      · have hki : ¬ (k : Int) < 64 := by omega
        have HS2 := Lib.hid (show firstP F m F' m' = -1 from by rw [HP.out, show 64 - k = 0 by omega, firstG])
        go_wp2
        go_ret
        rw [HS2.out]
        exact ⟨rfl, bl_step HL.out HB.out⟩
theorem alike_any (h : FS W fb lb cap F so bt q m) (hok : SpOk F m) (h' : FS W fb' lb' cap' F' so' bt' q' m') (hok' : SpOk F' m') :
    Calls Try.prog 15 #[.pointer (some ⟨so, 0, none⟩), .pointer (some ⟨so', 0, none⟩)] W fun e W' => e = .returned (.bool (decide (firstP F m F' m' < 0))) ∧ Below W.heap.size W W' := by
  have HC := Lib.hid (first_any h hok h' hok')
  clear h h' hok hok'
  generalize firstP F m F' m' = n at *
  go_enter Try.func15, Try.ntmps15
  go_wp2_with (fail)
  refine HC.out.mono ?_
  rintro e W1 ⟨rfl, h1⟩
  have H1 := Lib.hid h1
  clear h1 HC
  go_wp2
  go_ret
  exact ⟨rfl, H1.out⟩
/-- Two spaces that are alike. -/
theorem firstG_none {F : Fs} {m : M} {F' : Fs} {m' : M} (h : ∀ p, p < 64 → sameP F m F' m' p = true) : ∀ n k, n + k ≤ 64 → firstG F m F' m' n k = -1
  | 0, k, _ => rfl
  | n + 1, k, hk => by rw [firstG, if_pos (h k (by omega)), firstG_none h n (k + 1) (by omega)]
theorem firstP_none {F : Fs} {m : M} {F' : Fs} {m' : M} (h : ∀ p, p < 64 → sameP F m F' m' p = true) : firstP F m F' m' = -1 := firstG_none h 64 0 (by decide)
end
end
section
open Go.RowKit Go.Shelf
set_option linter.unusedVariables false
set_option linter.unusedSimpArgs false

theorem eqS_self (l : List Int) : eqS l l = true := by unfold eqS; exact beq_self_eq_true _
theorem sameP_of {F F' : Fs} {m m' : M} {p : Nat} (h1 : (m p).isSome = (m' p).isSome) (h2 : ((m p).getD E.zero).w = ((m' p).getD E.zero).w) (h3 : ((m p).getD E.zero).s = ((m' p).getD E.zero).s) (h4 : pageP F m p = pageP F' m' p) : sameP F m F' m' p = true := by
  unfold sameP
  rw [if_pos ⟨h1, h2, h3⟩, h4, eqS_self]
theorem sameP_self (F : Fs) (m : M) (p : Nat) : sameP F m F m p = true := sameP_of rfl rfl rfl rfl
theorem sameP_eq {F F' : Fs} {m m' : M} {p : Nat} (h1 : m p = m' p) (h4 : pageP F m p = pageP F' m' p) : sameP F m F' m' p = true := sameP_of (by rw [h1]) (by rw [h1]) (by rw [h1]) h4
/-- A space that has been cloned is like its clone. -/
theorem clone_alike (F : Fs) (m : M) : firstP (clG F m (list m) (list m).length).1 (clG F m (list m) (list m).length).2.1 (clG F m (list m) (list m).length).1 (clG F m (list m) (list m).length).2.2 = -1 :=
  firstP_none fun p hp => by
    obtain ⟨h1, h2⟩ := clone_pages F m hp
    obtain ⟨h3, h4⟩ := clone_reads F m hp
    exact sameP_eq (h1.trans h2.symm) (h3.trans h4.symm)
end
end Go.Proofs.Ytlecfdchmcghlaa
