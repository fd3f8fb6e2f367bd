/-
  Walks over package boot and its reference: may a boot be; words' bytes. No condition.
-/
import Derived.Laws.BitsAllLaws
import Derived.Test.YtpikgebfeleajaaGreatDoorRowMem
import Derived.Test.YtpikgebfeleajaaGreatDoorIter
namespace Go.Proofs.YtpikgebfeleajaaGreatDoor
open Go.RowKit
set_option linter.unusedVariables false
set_option linter.unusedSimpArgs false

def uC (n : Int) : List Value := [.int .u32 n]
def bC (n : Int) : List Value := [.int .u8 n]
abbrev WordsAt (w : World) (A : Option Addr) (l : List Int) : Prop := RowsAt w A 1 (l.map uC)
abbrev BytesAt (w : World) (A : Option Addr) (l : List Int) : Prop := RowsAt w A 1 (l.map bC)
theorem word_at {w : World} {A : Option Addr} {l : List Int} (h : WordsAt w A l) {i : Nat} {x : Int} (hx : l[i]? = some x) : ∃ b off, A = some ⟨b, off, none⟩ ∧ b < w.heap.size ∧ w.cell? ⟨b, off + i, none⟩ = some (.int .u32 x) := by
  obtain ⟨b, off, hA, hb, hc⟩ := h i (uC x) (by rw [List.getElem?_map, hx]; rfl)
  have := hc 0 _ rfl
  rw [Nat.mul_one] at this
  exact ⟨b, off, hA, hb, this⟩
theorem byte_at {w : World} {A : Option Addr} {l : List Int} (h : BytesAt w A l) {i : Nat} {x : Int} (hx : l[i]? = some x) : ∃ b off, A = some ⟨b, off, none⟩ ∧ b < w.heap.size ∧ w.cell? ⟨b, off + i, none⟩ = some (.int .u8 x) := by
  obtain ⟨b, off, hA, hb, hc⟩ := h i (bC x) (by rw [List.getElem?_map, hx]; rfl)
  have := hc 0 _ rfl
  rw [Nat.mul_one] at this
  exact ⟨b, off, hA, hb, this⟩
theorem infoB : (Tryz.prog.info? 5).map (fun i => (i.zero, i.size, i.bytes)) = some (some (.int .u8 0), 1, 1) := by kernel_rfl
abbrev OwnB (w : World) (base : Nat) (v : Value) (l : List Int) : Prop := w.ownsRow base 5 1 v l.length (l.flatMap bC)
theorem ownB_at {w : World} {base : Nat} {v : Value} {l : List Int} (h : OwnB w base v l) : ∃ A c, v = .slice A l.length c ∧ BytesAt w A l ∧ ∀ b off, A = some ⟨b, off, none⟩ → base ≤ b := by
  have := rows_own (k := 1) (w := w) (v := v) (base := base) (t := 5) (rows := l.map bC) (fun r hr => by obtain ⟨x, _, rfl⟩ := List.mem_map.1 hr; rfl) (by rw [List.length_map, ← List.flatMap_def]; exact h)
  rwa [List.length_map] at this
theorem ownB_snoc {w : World} {base : Nat} {v : Value} {l m : List Int} {n : Nat} (h : w.ownsRow base 5 1 v (l.length + n) (l.flatMap bC ++ m.flatMap bC)) (hn : m.length = n) : OwnB w base v (l ++ m) := by
  unfold OwnB
  rw [List.length_append, List.flatMap_append, hn]
  exact h
theorem below_grown {B : Nat} {w w1 w2 : World} {row : Option Nat} (h : Below B w w1) (hg : w1.grownBy w2 row) (hr : ∀ r, row = some r → B ≤ r) (hB : B ≤ w1.heap.size) : Below B w w2 :=
  ⟨hg.os.trans h.os, hg.tape.trans h.tape, hg.output.trans h.output, Nat.le_trans h.size hg.size, fun k hk => (hg.block k (by omega) (fun e => by have := hr k e.symm; omega)).trans (h.block k hk)⟩
theorem own_block {w : World} {base : Nat} {t : TypeId} {s : Nat} {v : Value} {n : Nat} {cs : List Value} (h : w.ownsRow base t s v n cs) : ∀ r, v.ownBlock = some r → base ≤ r := by
  rcases h.2 with ⟨rfl, _⟩ | ⟨g, cap, cur, rfl, hb, _⟩
  · intro r h; simp [Value.ownBlock] at h
  · intro r h; simp [Value.ownBlock] at h; omega
theorem ownsRow_below {w w' : World} {base : Nat} {e : TypeId} {size : Nat} {v : Value} {k : Nat} {xs : List Value} (h : w.ownsRow base e size v k xs) (hb : Below w.heap.size w w') : w'.ownsRow base e size v k xs :=
  h.kept (grownBy_below hb) (by cases v.ownBlock <;> simp)

/-! ## may a boot be? -/
def bootV (c f p q : Int) (A : Option Addr) (len cap : Nat) : Value := .agg #[.int .i64 c, .int .i64 f, .int .i64 p, .int .i64 q, .slice A len cap]
def vB (c f p q : Int) (k : Nat) : Int := [c, f, p, q].getD k 0
def mB (k : Nat) : Int := [8, 256, 32, 64].getD k 0
def mayB (c f p q : Int) (len : Nat) : Bool := decide (1 ≤ c ∧ c ≤ 8 ∧ 1 ≤ f ∧ f ≤ 256 ∧ 1 ≤ p ∧ p ≤ 32 ∧ 1 ≤ q ∧ q ≤ 64 ∧ 1 ≤ len ∧ len ≤ 512)
theorem lt4 {k : Nat} (h : k < 4) : k = 0 ∨ k = 1 ∨ k = 2 ∨ k = 3 := by omega
theorem mayB_iff (c f p q : Int) (len : Nat) : mayB c f p q len = true ↔ 1 ≤ c ∧ c ≤ 8 ∧ 1 ≤ f ∧ f ≤ 256 ∧ 1 ≤ p ∧ p ≤ 32 ∧ 1 ≤ q ∧ q ≤ 64 ∧ 1 ≤ len ∧ len ≤ 512 := by
  unfold mayB; rw [decide_eq_true_iff]
theorem mayB_all (c f p q : Int) (len : Nat) : mayB c f p q len = true ↔ (∀ k, k < 4 → 1 ≤ vB c f p q k ∧ vB c f p q k ≤ mB k) ∧ 1 ≤ len ∧ len ≤ 512 := by
  rw [mayB_iff]
  constructor
  · rintro h
    refine ⟨fun k hk => ?_, by omega, by omega⟩
    rcases lt4 hk with rfl | rfl | rfl | rfl <;> (simp only [vB, mB, List.getD_cons_zero, List.getD_cons_succ]; omega)
  · rintro ⟨h, h1, h2⟩
    have h0 := h 0 (by omega)
    have h3 := h 1 (by omega)
    have h4 := h 2 (by omega)
    have h5 := h 3 (by omega)
    simp only [vB, mB, List.getD_cons_zero, List.getD_cons_succ] at h0 h3 h4 h5
    omega
theorem ret_bool {a b : Bool} (h : a = b) : Ending.returned (.bool a) = .returned (.bool b) := by rw [h]
theorem most_any {w : World} {k : Nat} (hk : k < 4) : Calls Tryz.prog 31 #[.int .i64 k] w fun e w' => e = .returned (.int .i64 (mB k)) ∧ w = w' := by
  rcases lt4 hk with rfl | rfl | rfl | rfl
  all_goals
    go_enter Tryz.func31, Tryz.ntmps31
    go_wp2
    go_ret
    exact ⟨rfl, rfl⟩
theorem sizes_any {w : World} (c f p q : Int) (A : Option Addr) (len cap : Nat) : Calls Tryz.prog 20 #[bootV c f p q A len cap] w fun e w' => e = .returned (.agg #[.int .i64 c, .int .i64 f, .int .i64 p, .int .i64 q]) ∧ Below w.heap.size w w' := by
  unfold bootV
  go_enter Tryz.func20, Tryz.ntmps20
  go_wp2
  exact bodyPost_ret (v := .agg #[.int .i64 c, .int .i64 f, .int .i64 p, .int .i64 q]) (by simp [results, Tryz.results20, go_sem]) rfl ⟨rfl, ((Below.refl _ _).alloc (Nat.le_refl _) _).alloc (by simp) _⟩
theorem index4 (c f p q : Int) {k : Nat} (hk : k < 4) (w : World) : (Instr.index 49 (.agg #[.int .i64 c, .int .i64 f, .int .i64 p, .int .i64 q]) (.int .i64 k)).run Tryz.prog w = .ok (.int .i64 (vB c f p q k)) w := by
  rcases lt4 hk with rfl | rfl | rfl | rfl <;> kernel_rfl
set_option maxHeartbeats 1000000 in
theorem check_any {w : World} (c f p q : Int) (A : Option Addr) (len cap : Nat) (hl : len ≤ 9223372036854775807) : Calls Tryz.prog 10 #[bootV c f p q A len cap] w fun e w' => e = .returned (.int .i64 (if mayB c f p q len then 0 else 190)) ∧ Below w.heap.size w w' := by
  have HS := Lib.hid (fun W => sizes_any (w := W) c f p q A len cap)
  have HM := Lib.hid (fun W (k : Nat) (hk : k < 4) => most_any (w := W) hk)
  have HI := Lib.hid (fun (k : Nat) (hk : k < 4) (w : World) => index4 c f p q hk w)
  obtain ⟨r, hr⟩ : ∃ r : Int, (if mayB c f p q len then 0 else 190) = r := ⟨_, rfl⟩
  rw [hr]
  have HR := Lib.hid hr
  unfold bootV at HS ⊢
  have hx0 := Blk.new w 24 #[.int .i64 c, .int .i64 f, .int .i64 p, .int .i64 q, .slice A len cap]
  have hb0 := (Below.refl w.heap.size w).alloc (Nat.le_refl _) (.cells #[.int .i64 c, .int .i64 f, .int .i64 p, .int .i64 q, .slice A len cap] 24)
  have HX0 := Lib.hid hx0
  have HB0 := Lib.hid hb0
  clear hr hx0 hb0
  go_enter Tryz.func10, Tryz.ntmps10
  go_wp2_with fail
  refine (HS.out _).mono ?_
  rintro e w1 ⟨rfl, hb1⟩
  have HX1 := Lib.hid (HX0.out.below hb1 HX0.out.lt)
  have HB1 := Lib.hid (HB0.out.trans (hb1.mono (by rw [World.size_alloc]; omega)))
  clear hb1 HX0 HB0 HS
  go_wp2
  go_loop [7] (fun i => ∃ k : Nat, i = .int .i64 (k : Int) ∧ k ≤ 4 ∧ ∀ j, j < k → 1 ≤ vB c f p q j ∧ vB c f p q j ≤ mB j) (fun i => 4 - (intOf i).toNat)
  case atStart => exact ⟨0, rfl, by omega, fun j hj => absurd hj (Nat.not_lt_zero j)⟩
  case round =>
    obtain ⟨k, rfl, hk, hpre⟩ := hrel
    by_cases hk4 : k < 4
    · have hkb : (k : Int) < 4 := by omega
      have hix := fun w => HI.out k hk4 w
      have hmo := fun W => HM.out W k hk4
      by_cases h1 : vB c f p q k < 1
      · have hv : r = 190 := by
          rw [← HR.out, if_neg]
          rw [mayB_all]
          rintro ⟨h, _⟩
          have := h k hk4
          omega
        subst hv
        generalize vB c f p q k = v at *
        clear hpre HR HM
        go_wp2
        go_ret
        exact ⟨rfl, HB1.out⟩
      · by_cases h2 : mB k < vB c f p q k
        · have hv : r = 190 := by
            rw [← HR.out, if_neg]
            rw [mayB_all]
            rintro ⟨h, _⟩
            have := h k hk4
            omega
          subst hv
          have HM1 := Lib.hid hmo
          generalize vB c f p q k = v at *
          generalize mB k = mm at *
          clear hpre HR HM hmo
          go_wp2_with (go_at_call 31; refine (HM1.out _).mono ?_; rintro e w2 ⟨rfl, rfl⟩)
          go_ret
          exact ⟨rfl, HB1.out⟩
        · have HP := Lib.hid (fun j (hj : j < k + 1) => show 1 ≤ vB c f p q j ∧ vB c f p q j ≤ mB j from by
            rcases Nat.lt_or_ge j k with h | h
            · exact hpre j h
            · have : j = k := by omega
              subst this
              omega)
          have HM1 := Lib.hid hmo
          have h2' : vB c f p q k ≤ mB k := by omega
          generalize vB c f p q k = v at *
          generalize mB k = mm at *
          clear hpre HR HM hmo h2
          go_wp2_with (go_at_call 31; refine (HM1.out _).mono ?_; rintro e w2 ⟨rfl, rfl⟩)
          go_round
          case rel => exact ⟨k + 1, by go_num, by omega, HP.out⟩
          case measure => simp [intOf]; omega
    · have hk4' : k = 4 := by omega
      subst hk4'
      have g := HX1.out.cell 4
      have glt := HX1.out.lt
      simp only [List.getElem?_toArray, List.getElem?_cons_zero, List.getElem?_cons_succ] at g
      have hv : r = if 1 ≤ len ∧ len ≤ 512 then 0 else 190 := by
        rw [← HR.out]
        by_cases h : 1 ≤ len ∧ len ≤ 512
        · rw [if_pos h, if_pos ((mayB_all c f p q len).2 ⟨hpre, h⟩)]
        · rw [if_neg h, if_neg (fun hh => h ((mayB_all c f p q len).1 hh).2)]
      clear hpre HR HM HI
      by_cases h1 : len < 1
      · rw [if_neg (by omega)] at hv
        subst hv
        go_wp2
        go_ret
        exact ⟨rfl, HB1.out⟩
      · by_cases h2 : 512 < len
        · rw [if_neg (by omega)] at hv
          subst hv
          go_wp2
          go_ret
          exact ⟨rfl, HB1.out⟩
        · rw [if_pos (by omega)] at hv
          subst hv
          go_wp2
          go_ret
          exact ⟨rfl, HB1.out⟩
/-! ## words' bytes -/
def b4 (w : Int) : List Int := [w % 256, w / 256 % 256, w / 65536 % 256, w / 16777216]
def bytesL (ws : List Int) : List Int := ws.flatMap b4
theorem bytesL_len (ws : List Int) : (bytesL ws).length = 4 * ws.length := by
  induction ws with
  | nil => rfl
  | cons x l ih => unfold bytesL at ih ⊢; rw [List.flatMap_cons, List.length_append, ih, List.length_cons]; simp [b4]; omega
theorem bytesL_take {ws : List Int} {k : Nat} {x : Int} (h : ws[k]? = some x) : bytesL (ws.take (k + 1)) = bytesL (ws.take k) ++ b4 x := by
  unfold bytesL; rw [List.take_add_one, h, List.flatMap_append]; simp
def Words (ws : List Int) : Prop := ∀ (i : Nat) (x : Int), ws[i]? = some x → 0 ≤ x ∧ x ≤ 4294967295
set_option maxHeartbeats 2000000 in
theorem isaBytes_any {w : World} (A : Option Addr) (ca : Nat) (ws : List Int) (hl : ws.length ≤ 1000000) (hA : WordsAt w A ws) (hw : Words ws) : Calls Tryz.prog 62 #[.slice A ws.length ca] w
    fun e w' => ∃ v, e = .returned v ∧ OwnB w' w.heap.size v (bytesL ws) ∧ Below w.heap.size w w' := by
  obtain ⟨i0, hi, hz0, hz1, hz2⟩ := info_parts infoB
  go_enter Tryz.func62, Tryz.ntmps62
  go_wp2
  go_loopw [3, 8] (fun v i wr => ∃ k : Nat, i = .int .i64 (k : Int) ∧ k ≤ ws.length ∧ OwnB wr w.heap.size v (bytesL (ws.take k)) ∧ Below w.heap.size w wr) (fun _ i _ => ws.length - (intOf i).toNat)
  case atStart => exact ⟨0, rfl, Nat.zero_le _, World.ownsRow_nil _ _ _ _, Below.refl _ _⟩
  case round =>
    obtain ⟨k, rfl, hk, hown, hB⟩ := hrel
    have hsz := hB.size
    by_cases hkl : k < ws.length
    · have hkb : (k : Int) < (ws.length : Int) := by omega
      have hxe : ws[k]? = some ws[k] := List.getElem?_eq_getElem hkl
      have hnx := bytesL_take hxe
      have hlen : (bytesL (ws.take k)).length ≤ 4 * k := by rw [bytesL_len, List.length_take]; omega
      obtain ⟨hx0, hx1⟩ := hw k _ hxe
      obtain ⟨b, off, rfl, hbl, c0⟩ := word_at (hA.below hB) hxe
      generalize ws[k] = x at *
      generalize bytesL (ws.take k) = sel at *
      have hown0 := hown
      have HN := Lib.hid hnx
      have HO := Lib.hid hown
      clear hnx hxe hown hA
      go_wp2_with (at_builtin; refine wpList_append_own _ rfl _ _ 39 rfl w.heap.size 5 i0 _ 1 1 Tryz.underlying39 hi hz0 hz1 hz2 rfl (by decide) _ _ _ rfl (hown0.alloc _) ⟨wr.heap.size, 0, none⟩ 4 4 ((b4 x).flatMap bC) rfl rfl (cells_new _ _ _) (by simp [b4, bC, Value.oneCell']) (by unfold maxLen; omega) (by omega) (by simp; omega) ?_; intro v' w1 hown' hgrow _)
      go_roundw
      case rel => exact ⟨k + 1, by go_num, by omega, by rw [HN.out]; exact ownB_snoc hown' rfl, below_grown (hB.alloc hsz _) hgrow (own_block HO.out) (by simp; omega)⟩
      case measure => simp [intOf]; omega
    · have hkk : k = ws.length := by omega
      subst hkk
      rw [List.take_length] at hown
      clear hA
      go_wp2
      go_ret
      exact ⟨_, rfl, hown, hB⟩

/-! ## the reference's -/
end Go.Proofs.YtpikgebfeleajaaGreatDoor
