/-
  boot.number, boot.Text: a line's number, a boot's text. Condition: the tables lie as the program's text, and the library's, lay them.
-/
import Derived.Laws.BitsAllLaws
import Derived.Test.YtpikgebfeleajaaGreatDoorRowMem
import Derived.Test.YtpikgebfeleajaaGreatDoorIter
import Derived.Deep.RegionHeld3
import Derived.Test.YtpikgebfeleajaaGreatDoorIsJ
import Derived.Test.YtpikgebfeleajaaGreatDoorStr4
import Derived.Test.YtpikgebfeleajaaGreatDoorBoQ
namespace Go.Proofs.YtpikgebfeleajaaGreatDoor
section
open Go.RowKit
set_option linter.unusedVariables false
set_option linter.unusedSimpArgs false

def uC (n : Int) : List Value := [.int .u32 n]
def bC (n : Int) : List Value := [.int .u8 n]
abbrev WordsAt (w : World) (A : Option Addr) (l : List Int) : Prop := RowsAt w A 1 (l.map uC)
abbrev BytesAt (w : World) (A : Option Addr) (l : List Int) : Prop := RowsAt w A 1 (l.map bC)
theorem word_at {w : World} {A : Option Addr} {l : List Int} (h : WordsAt w A l) {i : Nat} {x : Int} (hx : l[i]? = some x) : ∃ b off, A = some ⟨b, off, none⟩ ∧ b < w.heap.size ∧ w.cell? ⟨b, off + i, none⟩ = some (.int .u32 x) := by
  obtain ⟨b, off, hA, hb, hc⟩ := h i (uC x) (by rw [List.getElem?_map, hx]; rfl)
  have := hc 0 _ rfl
  rw [Nat.mul_one] at this
  exact ⟨b, off, hA, hb, this⟩
theorem byte_at {w : World} {A : Option Addr} {l : List Int} (h : BytesAt w A l) {i : Nat} {x : Int} (hx : l[i]? = some x) : ∃ b off, A = some ⟨b, off, none⟩ ∧ b < w.heap.size ∧ w.cell? ⟨b, off + i, none⟩ = some (.int .u8 x) := by
  obtain ⟨b, off, hA, hb, hc⟩ := h i (bC x) (by rw [List.getElem?_map, hx]; rfl)
  have := hc 0 _ rfl
  rw [Nat.mul_one] at this
  exact ⟨b, off, hA, hb, this⟩
theorem infoB : (Tryz.prog.info? 5).map (fun i => (i.zero, i.size, i.bytes)) = some (some (.int .u8 0), 1, 1) := by kernel_rfl
abbrev OwnB (w : World) (base : Nat) (v : Value) (l : List Int) : Prop := w.ownsRow base 5 1 v l.length (l.flatMap bC)
theorem ownB_at {w : World} {base : Nat} {v : Value} {l : List Int} (h : OwnB w base v l) : ∃ A c, v = .slice A l.length c ∧ BytesAt w A l ∧ ∀ b off, A = some ⟨b, off, none⟩ → base ≤ b := by
  have := rows_own (k := 1) (w := w) (v := v) (base := base) (t := 5) (rows := l.map bC) (fun r hr => by obtain ⟨x, _, rfl⟩ := List.mem_map.1 hr; rfl) (by rw [List.length_map, ← List.flatMap_def]; exact h)
  rwa [List.length_map] at this
theorem ownB_snoc {w : World} {base : Nat} {v : Value} {l m : List Int} {n : Nat} (h : w.ownsRow base 5 1 v (l.length + n) (l.flatMap bC ++ m.flatMap bC)) (hn : m.length = n) : OwnB w base v (l ++ m) := by
  unfold OwnB
  rw [List.length_append, List.flatMap_append, hn]
  exact h
theorem below_grown {B : Nat} {w w1 w2 : World} {row : Option Nat} (h : Below B w w1) (hg : w1.grownBy w2 row) (hr : ∀ r, row = some r → B ≤ r) (hB : B ≤ w1.heap.size) : Below B w w2 :=
  ⟨hg.os.trans h.os, hg.tape.trans h.tape, hg.output.trans h.output, Nat.le_trans h.size hg.size, fun k hk => (hg.block k (by omega) (fun e => by have := hr k e.symm; omega)).trans (h.block k hk)⟩
theorem own_block {w : World} {base : Nat} {t : TypeId} {s : Nat} {v : Value} {n : Nat} {cs : List Value} (h : w.ownsRow base t s v n cs) : ∀ r, v.ownBlock = some r → base ≤ r := by
  rcases h.2 with ⟨rfl, _⟩ | ⟨g, cap, cur, rfl, hb, _⟩
  · intro r h; simp [Value.ownBlock] at h
  · intro r h; simp [Value.ownBlock] at h; omega
theorem ownsRow_below {w w' : World} {base : Nat} {e : TypeId} {size : Nat} {v : Value} {k : Nat} {xs : List Value} (h : w.ownsRow base e size v k xs) (hb : Below w.heap.size w w') : w'.ownsRow base e size v k xs :=
  h.kept (grownBy_below hb) (by cases v.ownBlock <;> simp)

/-! ## may a boot be? -/
def bootV (c f p q : Int) (A : Option Addr) (len cap : Nat) : Value := .agg #[.int .i64 c, .int .i64 f, .int .i64 p, .int .i64 q, .slice A len cap]
def vB (c f p q : Int) (k : Nat) : Int := [c, f, p, q].getD k 0
def mB (k : Nat) : Int := [8, 256, 32, 64].getD k 0
def mayB (c f p q : Int) (len : Nat) : Bool := decide (1 ≤ c ∧ c ≤ 8 ∧ 1 ≤ f ∧ f ≤ 256 ∧ 1 ≤ p ∧ p ≤ 32 ∧ 1 ≤ q ∧ q ≤ 64 ∧ 1 ≤ len ∧ len ≤ 512)
theorem lt4 {k : Nat} (h : k < 4) : k = 0 ∨ k = 1 ∨ k = 2 ∨ k = 3 := by omega
theorem mayB_iff (c f p q : Int) (len : Nat) : mayB c f p q len = true ↔ 1 ≤ c ∧ c ≤ 8 ∧ 1 ≤ f ∧ f ≤ 256 ∧ 1 ≤ p ∧ p ≤ 32 ∧ 1 ≤ q ∧ q ≤ 64 ∧ 1 ≤ len ∧ len ≤ 512 := by
  unfold mayB; rw [decide_eq_true_iff]
theorem mayB_all (c f p q : Int) (len : Nat) : mayB c f p q len = true ↔ (∀ k, k < 4 → 1 ≤ vB c f p q k ∧ vB c f p q k ≤ mB k) ∧ 1 ≤ len ∧ len ≤ 512 := by
  rw [mayB_iff]
  constructor
  · rintro h
    refine ⟨fun k hk => ?_, by omega, by omega⟩
    rcases lt4 hk with rfl | rfl | rfl | rfl <;> (simp only [vB, mB, List.getD_cons_zero, List.getD_cons_succ]; omega)
  · rintro ⟨h, h1, h2⟩
    have h0 := h 0 (by omega)
    have h3 := h 1 (by omega)
    have h4 := h 2 (by omega)
    have h5 := h 3 (by omega)
    simp only [vB, mB, List.getD_cons_zero, List.getD_cons_succ] at h0 h3 h4 h5
    omega
theorem ret_bool {a b : Bool} (h : a = b) : Ending.returned (.bool a) = .returned (.bool b) := by rw [h]
theorem most_any {w : World} {k : Nat} (hk : k < 4) : Calls Tryz.prog 31 #[.int .i64 k] w fun e w' => e = .returned (.int .i64 (mB k)) ∧ w = w' := by
  rcases lt4 hk with rfl | rfl | rfl | rfl
  all_goals
    go_enter Tryz.func31, Tryz.ntmps31
    go_wp2
    go_ret
    exact ⟨rfl, rfl⟩
theorem sizes_any {w : World} (c f p q : Int) (A : Option Addr) (len cap : Nat) : Calls Tryz.prog 20 #[bootV c f p q A len cap] w fun e w' => e = .returned (.agg #[.int .i64 c, .int .i64 f, .int .i64 p, .int .i64 q]) ∧ Below w.heap.size w w' := by
  unfold bootV
  go_enter Tryz.func20, Tryz.ntmps20
  go_wp2
  exact bodyPost_ret (v := .agg #[.int .i64 c, .int .i64 f, .int .i64 p, .int .i64 q]) (by simp [results, Tryz.results20, go_sem]) rfl ⟨rfl, ((Below.refl _ _).alloc (Nat.le_refl _) _).alloc (by simp) _⟩
theorem index4 (c f p q : Int) {k : Nat} (hk : k < 4) (w : World) : (Instr.index 49 (.agg #[.int .i64 c, .int .i64 f, .int .i64 p, .int .i64 q]) (.int .i64 k)).run Tryz.prog w = .ok (.int .i64 (vB c f p q k)) w := by
  rcases lt4 hk with rfl | rfl | rfl | rfl <;> kernel_rfl
set_option maxHeartbeats 1000000 in
theorem check_any {w : World} (c f p q : Int) (A : Option Addr) (len cap : Nat) (hl : len ≤ 9223372036854775807) : Calls Tryz.prog 10 #[bootV c f p q A len cap] w fun e w' => e = .returned (.int .i64 (if mayB c f p q len then 0 else 190)) ∧ Below w.heap.size w w' := by
  have HS := Lib.hid (fun W => sizes_any (w := W) c f p q A len cap)
  have HM := Lib.hid (fun W (k : Nat) (hk : k < 4) => most_any (w := W) hk)
  have HI := Lib.hid (fun (k : Nat) (hk : k < 4) (w : World) => index4 c f p q hk w)
  obtain ⟨r, hr⟩ : ∃ r : Int, (if mayB c f p q len then 0 else 190) = r := ⟨_, rfl⟩
  rw [hr]
  have HR := Lib.hid hr
  unfold bootV at HS ⊢
  have hx0 := Blk.new w 24 #[.int .i64 c, .int .i64 f, .int .i64 p, .int .i64 q, .slice A len cap]
  have hb0 := (Below.refl w.heap.size w).alloc (Nat.le_refl _) (.cells #[.int .i64 c, .int .i64 f, .int .i64 p, .int .i64 q, .slice A len cap] 24)
  have HX0 := Lib.hid hx0
  have HB0 := Lib.hid hb0
  clear hr hx0 hb0
  go_enter Tryz.func10, Tryz.ntmps10
  go_wp2_with fail
  refine (HS.out _).mono ?_
  rintro e w1 ⟨rfl, hb1⟩
  have HX1 := Lib.hid (HX0.out.below hb1 HX0.out.lt)
  have HB1 := Lib.hid (HB0.out.trans (hb1.mono (by rw [World.size_alloc]; omega)))
  clear hb1 HX0 HB0 HS
  go_wp2
  go_loop [7] (fun i => ∃ k : Nat, i = .int .i64 (k : Int) ∧ k ≤ 4 ∧ ∀ j, j < k → 1 ≤ vB c f p q j ∧ vB c f p q j ≤ mB j) (fun i => 4 - (intOf i).toNat)
  case atStart => exact ⟨0, rfl, by omega, fun j hj => absurd hj (Nat.not_lt_zero j)⟩
  case round =>
    obtain ⟨k, rfl, hk, hpre⟩ := hrel
    by_cases hk4 : k < 4
    · have hkb : (k : Int) < 4 := by omega
      have hix := fun w => HI.out k hk4 w
      have hmo := fun W => HM.out W k hk4
      by_cases h1 : vB c f p q k < 1
      · have hv : r = 190 := by
          rw [← HR.out, if_neg]
          rw [mayB_all]
          rintro ⟨h, _⟩
          have := h k hk4
          omega
        subst hv
        generalize vB c f p q k = v at *
        clear hpre HR HM
        go_wp2
        go_ret
        exact ⟨rfl, HB1.out⟩
      · by_cases h2 : mB k < vB c f p q k
        · have hv : r = 190 := by
            rw [← HR.out, if_neg]
            rw [mayB_all]
            rintro ⟨h, _⟩
            have := h k hk4
            omega
          subst hv
          have HM1 := Lib.hid hmo
          generalize vB c f p q k = v at *
          generalize mB k = mm at *
          clear hpre HR HM hmo
          go_wp2_with (go_at_call 31; refine (HM1.out _).mono ?_; rintro e w2 ⟨rfl, rfl⟩)
          go_ret
          exact ⟨rfl, HB1.out⟩
        · have HP := Lib.hid (fun j (hj : j < k + 1) => show 1 ≤ vB c f p q j ∧ vB c f p q j ≤ mB j from by
            rcases Nat.lt_or_ge j k with h | h
            · exact hpre j h
            · have : j = k := by omega
              subst this
              omega)
          have HM1 := Lib.hid hmo
          have h2' : vB c f p q k ≤ mB k := by omega
          generalize vB c f p q k = v at *
          generalize mB k = mm at *
          clear hpre HR HM hmo h2
          go_wp2_with (go_at_call 31; refine (HM1.out _).mono ?_; rintro e w2 ⟨rfl, rfl⟩)
          go_round
          case rel => exact ⟨k + 1, by go_num, by omega, HP.out⟩
          case measure => simp [intOf]; omega
    · have hk4' : k = 4 := by omega
      subst hk4'
      have g := HX1.out.cell 4
      have glt := HX1.out.lt
      simp only [List.getElem?_toArray, List.getElem?_cons_zero, List.getElem?_cons_succ] at g
      have hv : r = if 1 ≤ len ∧ len ≤ 512 then 0 else 190 := by
        rw [← HR.out]
        by_cases h : 1 ≤ len ∧ len ≤ 512
        · rw [if_pos h, if_pos ((mayB_all c f p q len).2 ⟨hpre, h⟩)]
        · rw [if_neg h, if_neg (fun hh => h ((mayB_all c f p q len).1 hh).2)]
      clear hpre HR HM HI
      by_cases h1 : len < 1
      · rw [if_neg (by omega)] at hv
        subst hv
        go_wp2
        go_ret
        exact ⟨rfl, HB1.out⟩
      · by_cases h2 : 512 < len
        · rw [if_neg (by omega)] at hv
          subst hv
          go_wp2
          go_ret
          exact ⟨rfl, HB1.out⟩
        · rw [if_pos (by omega)] at hv
          subst hv
          go_wp2
          go_ret
          exact ⟨rfl, HB1.out⟩
set_option maxHeartbeats 4000000 in
theorem may_any {w : World} (c f p q : Int) (A : Option Addr) (len cap : Nat) (hl : len ≤ 9223372036854775807) : Calls Tryz.prog 23 #[bootV c f p q A len cap] w fun e w' => e = .returned (.bool (mayB c f p q len)) ∧ Below w.heap.size w w' := by
  have HM := Lib.hid (mayB_iff c f p q len)
  unfold bootV
  go_enter Tryz.func23, Tryz.ntmps23
  go_wp2
  all_goals
    go_ret
    refine ⟨ret_bool ?_, (Below.refl _ _).alloc (Nat.le_refl _) _⟩
    rw [Bool.eq_iff_iff, HM.out]
    first
      | (rw [decide_eq_true_iff]; omega)
      | (constructor <;> intro h <;> first | omega | cases h)

/-! ## words' bytes -/
def b4 (w : Int) : List Int := [w % 256, w / 256 % 256, w / 65536 % 256, w / 16777216]
def bytesL (ws : List Int) : List Int := ws.flatMap b4
theorem bytesL_len (ws : List Int) : (bytesL ws).length = 4 * ws.length := by
  induction ws with
  | nil => rfl
  | cons x l ih => unfold bytesL at ih ⊢; rw [List.flatMap_cons, List.length_append, ih, List.length_cons]; simp [b4]; omega
theorem bytesL_take {ws : List Int} {k : Nat} {x : Int} (h : ws[k]? = some x) : bytesL (ws.take (k + 1)) = bytesL (ws.take k) ++ b4 x := by
  unfold bytesL; rw [List.take_add_one, h, List.flatMap_append]; simp
def Words (ws : List Int) : Prop := ∀ (i : Nat) (x : Int), ws[i]? = some x → 0 ≤ x ∧ x ≤ 4294967295
set_option maxHeartbeats 2000000 in
theorem isaBytes_any {w : World} (A : Option Addr) (ca : Nat) (ws : List Int) (hl : ws.length ≤ 1000000) (hA : WordsAt w A ws) (hw : Words ws) : Calls Tryz.prog 62 #[.slice A ws.length ca] w
    fun e w' => ∃ v, e = .returned v ∧ OwnB w' w.heap.size v (bytesL ws) ∧ Below w.heap.size w w' := by
  obtain ⟨i0, hi, hz0, hz1, hz2⟩ := info_parts infoB
  go_enter Tryz.func62, Tryz.ntmps62
  go_wp2
  go_loopw [3, 8] (fun v i wr => ∃ k : Nat, i = .int .i64 (k : Int) ∧ k ≤ ws.length ∧ OwnB wr w.heap.size v (bytesL (ws.take k)) ∧ Below w.heap.size w wr) (fun _ i _ => ws.length - (intOf i).toNat)
  case atStart => exact ⟨0, rfl, Nat.zero_le _, World.ownsRow_nil _ _ _ _, Below.refl _ _⟩
  case round =>
    obtain ⟨k, rfl, hk, hown, hB⟩ := hrel
    have hsz := hB.size
    by_cases hkl : k < ws.length
    · have hkb : (k : Int) < (ws.length : Int) := by omega
      have hxe : ws[k]? = some ws[k] := List.getElem?_eq_getElem hkl
      have hnx := bytesL_take hxe
      have hlen : (bytesL (ws.take k)).length ≤ 4 * k := by rw [bytesL_len, List.length_take]; omega
      obtain ⟨hx0, hx1⟩ := hw k _ hxe
      obtain ⟨b, off, rfl, hbl, c0⟩ := word_at (hA.below hB) hxe
      generalize ws[k] = x at *
      generalize bytesL (ws.take k) = sel at *
      have hown0 := hown
      have HN := Lib.hid hnx
      have HO := Lib.hid hown
      clear hnx hxe hown hA
      go_wp2_with (at_builtin; refine wpList_append_own _ rfl _ _ 39 rfl w.heap.size 5 i0 _ 1 1 Tryz.underlying39 hi hz0 hz1 hz2 rfl (by decide) _ _ _ rfl (hown0.alloc _) ⟨wr.heap.size, 0, none⟩ 4 4 ((b4 x).flatMap bC) rfl rfl (cells_new _ _ _) (by simp [b4, bC, Value.oneCell']) (by unfold maxLen; omega) (by omega) (by simp; omega) ?_; intro v' w1 hown' hgrow _)
      go_roundw
      case rel => exact ⟨k + 1, by go_num, by omega, by rw [HN.out]; exact ownB_snoc hown' rfl, below_grown (hB.alloc hsz _) hgrow (own_block HO.out) (by simp; omega)⟩
      case measure => simp [intOf]; omega
    · have hkk : k = ws.length := by omega
      subst hkk
      rw [List.take_length] at hown
      clear hA
      go_wp2
      go_ret
      exact ⟨_, rfl, hown, hB⟩

/-! ## the reference's -/
end
end Go.Proofs.YtpikgebfeleajaaGreatDoor
namespace Go.Proofs.YtpikgebfeleajaaGreatDoor
section
open Go.RowKit Go.Shelf
set_option linter.unusedVariables false
set_option linter.unusedSimpArgs false
attribute [local go_sem] Oper.semAt_some

structure GB (w : World) : Prop where
  words : ∃ t, Blk w 0 t #[.string ⟨#[99, 111, 114, 101, 115]⟩, .string ⟨#[102, 114, 97, 109, 101, 115]⟩, .string ⟨#[112, 114, 111, 99, 115]⟩, .string ⟨#[112, 105, 112, 101]⟩]
  isa : I.Ground w
  errs : Errs w
theorem GB.below {w w' : World} (h : GB w) (hb : Below w.heap.size w w') : GB w' := ⟨h.words.elim fun t x => ⟨t, x.below hb x.lt⟩, h.isa.below hb, h.errs.below hb⟩
def wS (k : Nat) : ByteArray := ⟨(wB k).toArray⟩
theorem GB.cell {w : World} (h : GB w) {k : Nat} (hk : k < 4) : w.cell? ⟨0, k, none⟩ = some (.string (wS k)) ∧ 0 < w.heap.size := by
  obtain ⟨t, x⟩ := h.words
  refine ⟨(x.cell k).trans ?_, x.lt⟩
  rcases lt4 hk with rfl | rfl | rfl | rfl <;> rfl
theorem mB_same (k : Nat) : mB' k = mB k := rfl
theorem wS_len : ∀ k : Fin 4, (wS k.1).size ≤ 6 := by decide +kernel

set_option maxRecDepth 100000 in
set_option maxHeartbeats 4000000 in
theorem number_any {w : World} (hG : GB w) {k : Nat} (hk : k < 4) (s : ByteArray) (hs : s.size ≤ 1000000) :
    Calls Tryz.prog 27 #[.int .i64 k, .string s] w fun e w' => e = .returned (.tuple #[.int .i64 (numV k s.data.toList), .bool (decide (NumOk k s.data.toList))]) ∧ Below w.heap.size w w' := by
  obtain ⟨hc, hlt⟩ := hG.cell hk
  have hz := wS_len ⟨k, hk⟩
  dsimp only at hz
  obtain ⟨p, hp⟩ : ∃ p, p = Lib.hasPrefix s.data.toList (wB k ++ [32]) := ⟨_, rfl⟩
  obtain ⟨r, hr⟩ : ∃ r : ByteArray, r = ⟨(restB k s.data.toList).toArray⟩ := ⟨_, rfl⟩
  have hrl : r.data.toList = restB k s.data.toList := by rw [hr]
  have hrz : r.size ≤ 1000000 := by
    have h1 := Lib.trimPrefix_le s.data.toList (wB k ++ [32])
    have h2 : r.size = r.data.toList.length := (Array.length_toList).symm
    have h3 : s.size = s.data.toList.length := (Array.length_toList).symm
    rw [h2, hrl]
    unfold restB
    omega
  have HP := Lib.hid (fun W => show Calls Tryz.prog 50 #[.string s, .string (wS k ++ ⟨#[32]⟩)] W fun e w' => e = .returned (.tuple #[.string r, .bool p]) ∧ w' = W from by
    have h := Tryz.strings_CutPrefix s (wS k ++ ⟨#[32]⟩) W
    have e : (wS k ++ ⟨#[32]⟩ : ByteArray).data.toList = wB k ++ [32] := by
      rw [ByteArray.data_append, Array.toList_append]
      rfl
    rw [e] at h
    rw [hr, hp]
    exact h)
  have HA := Lib.hid (fun W (hW : Below w.heap.size w W) => show Calls Tryz.prog 51 #[.string r] W fun e w' => ∃ er, e = .returned (.tuple #[.int .i64 (numV k s.data.toList), er]) ∧ Fits (okE (Lib.atoiAll (restB k s.data.toList))) er ∧ Below W.heap.size W w' from by
    have h := atoi_any (hG.below hW).errs r (by omega)
    rw [hrl] at h
    exact h)
  have hn := atoiV_range (restB k s.data.toList)
  obtain ⟨n, hnv⟩ : ∃ n, numV k s.data.toList = n := ⟨_, rfl⟩
  obtain ⟨ok, hok⟩ : ∃ ok, okE (Lib.atoiAll (restB k s.data.toList)) = ok := ⟨_, rfl⟩
  obtain ⟨t, ht⟩ : ∃ t : ByteArray, t = ⟨(Lib.itoa n).toArray⟩ := ⟨_, rfl⟩
  have hn2 : -9223372036854775808 ≤ n ∧ n ≤ 9223372036854775807 := by rw [← hnv]; exact hn
  have HI := Lib.hid (fun W (hW : Below w.heap.size w W) => show Calls Tryz.prog 21 #[.int .i64 n] W fun e w' => e = .returned (.string t) ∧ Below W.heap.size W w' from by
    rw [ht]
    exact itoa_any (hG.below hW).isa.pow n hn2.1 hn2.2)
  have HM := Lib.hid (fun W => most_any (w := W) hk)
  obtain ⟨R, hR⟩ : ∃ R, decide (NumOk k s.data.toList) = R := ⟨_, rfl⟩
  rw [hnv] at HA ⊢
  rw [hok] at HA
  rw [hR]
  obtain ⟨q, hq⟩ : ∃ q, (t.toList == r.toList) = q := ⟨_, rfl⟩
  have hQ : NumOk k s.data.toList ↔ (p = true ∧ ok = true ∧ q = true ∧ 1 ≤ n ∧ n ≤ mB k) := by
    unfold NumOk
    rw [← hp, hok, hnv, ← hq, Lib.toList_data, Lib.toList_data, ht, hrl, beq_iff_eq, mB_same]
  have hcase : (p = false ∧ R = false) ∨ (p = true ∧ ok = false ∧ R = false) ∨ (p = true ∧ ok = true ∧ q = false ∧ R = false) ∨ (p = true ∧ ok = true ∧ q = true ∧ ¬ 1 ≤ n ∧ R = false) ∨ (p = true ∧ ok = true ∧ q = true ∧ 1 ≤ n ∧ ¬ n ≤ mB k ∧ R = false) ∨ (p = true ∧ ok = true ∧ q = true ∧ 1 ≤ n ∧ n ≤ mB k ∧ R = true) := by
    rw [← hR]
    simp only [hQ]
    cases p
    · simp
    · cases ok
      · simp
      · cases q
        · simp
        · by_cases h1 : 1 ≤ n
          · by_cases h2 : n ≤ mB k <;> simp [h1, h2]
          · simp [h1]
  have hcat : (wS k).size + (⟨#[32]⟩ : ByteArray).size ≤ 9223372036854775807 := by have : (⟨#[32]⟩ : ByteArray).size = 1 := rfl; omega
  have hk0 : (0 : Int) ≤ (k : Int) := by omega
  have hk4 : (k : Int) < 4 := by omega
  generalize wS k = ws at *
  generalize mB k = mk at *
  have HCS := Lib.hid hcase
  clear hG hz hp hr hrl hrz hn hnv hok ht hn2 hR hQ hcase
  go_enter Tryz.func27, Tryz.ntmps27
  go_wp2_with fail
  refine (HP.out _).mono ?_
  rintro e W ⟨rfl, rfl⟩
  clear hc hlt hcat
  go_wp2_with fail
  refine (HA.out _ (Below.refl _ _)).mono ?_
  rintro e W1 ⟨er, rfl, hf, hb1⟩
  have HB1 := Lib.hid hb1
  clear hb1
  rcases HCS.out with ⟨rfl, rfl⟩ | ⟨rfl, rfl, rfl⟩ | ⟨rfl, rfl, rfl, rfl⟩ | ⟨rfl, rfl, rfl, h1, rfl⟩ | ⟨rfl, rfl, rfl, h1, h2, rfl⟩ | ⟨rfl, rfl, rfl, h1, h2, rfl⟩
  · go_wp2
    go_ret2
    exact ⟨rfl, HB1.out⟩
  · rcases hf with ⟨h0, _⟩ | ⟨_, u, v, rfl⟩
    · cases h0
    go_wp2
    go_ret2
    exact ⟨rfl, HB1.out⟩
  all_goals
    rcases hf with ⟨_, rfl⟩ | ⟨h0, _⟩
    case inr => cases h0
    go_wp2_with fail
    refine (HI.out _ HB1.out).mono ?_
    rintro e W2 ⟨rfl, hb2⟩
    have HB2 := Lib.hid (HB1.out.trans (hb2.mono HB1.out.size))
    clear hb2 HB1
    go_wp2_with (go_at_call 31; refine (HM.out _).mono ?_; rintro e W3 ⟨rfl, rfl⟩)
    go_ret2
    exact ⟨by first | rfl | (simp; done) | (simp; omega), HB2.out⟩

theorem rcells' {w : World} {g : Nat} {t : TypeId} {a b c d e : Value} (h : Blk w g t #[a, b, c, d, e]) : w.cell? ⟨g, 0, none⟩ = some a ∧ w.cell? ⟨g, 1, none⟩ = some b ∧ w.cell? ⟨g, 2, none⟩ = some c ∧ w.cell? ⟨g, 3, none⟩ = some d ∧ w.cell? ⟨g, 4, none⟩ = some e ∧ g < w.heap.size :=
  ⟨(h.cell 0).trans rfl, (h.cell 1).trans rfl, (h.cell 2).trans rfl, (h.cell 3).trans rfl, (h.cell 4).trans rfl, h.lt⟩
theorem bl_step {v W W1 : World} (h : Below v.heap.size v W) (h1 : Below W.heap.size W W1) : Below v.heap.size v W1 := h.trans (h1.mono h.size)
theorem bl_new {v W : World} (h : Below v.heap.size v W) (o : Obj) : Below v.heap.size v (W.alloc o) := h.alloc h.size o
/-! ## a boot's text -/
def lnB (k : Nat) (n : Int) : List UInt8 := lineB k n ++ [10]
def preT (c f p q : Int) (k : Nat) : List UInt8 := (List.range k).flatMap fun j => lnB j (vB c f p q j)
def preS (c f p q : Int) (k : Nat) : ByteArray := ⟨(preT c f p q k).toArray⟩
theorem pre_all (c f p q : Int) : preT c f p q 4 = headT c f p q := by
  unfold preT headT lnB
  simp [List.range_succ, vB]
theorem pre_step (c f p q : Int) (k : Nat) (t : ByteArray) (ht : t.data.toList = Lib.itoa (vB c f p q k)) : preS c f p q k ++ (wS k ++ ⟨#[32]⟩ ++ t ++ ⟨#[10]⟩) = preS c f p q (k + 1) := by
  refine I.bytes_eq ?_
  rw [ByteArray.data_append, ByteArray.data_append, ByteArray.data_append, ByteArray.data_append, Array.toList_append, Array.toList_append, Array.toList_append, Array.toList_append, ht]
  unfold preS preT
  rw [List.range_succ, List.flatMap_append]
  simp [wS, lnB, lineB]
theorem lineB_len {k : Nat} (hk : k < 4) {n : Int} (h0 : -9223372036854775808 ≤ n) (h1 : n ≤ 9223372036854775807) : (lineB k n).length ≤ 28 := by
  have h2 := itoa_len n h0 h1
  have h3 : (wB k).length ≤ 6 := wS_len ⟨k, hk⟩
  unfold lineB
  rw [List.length_append, List.length_cons]
  omega
def Rg4 (c f p q : Int) : Prop := ∀ k, k < 4 → -9223372036854775808 ≤ vB c f p q k ∧ vB c f p q k ≤ 9223372036854775807
theorem pre_len {c f p q : Int} (h : Rg4 c f p q) : ∀ k, k ≤ 4 → (preT c f p q k).length ≤ 40 * k
  | 0, _ => Nat.le_refl _
  | k + 1, hk => by
    have ih := pre_len h k (by omega)
    have h1 := h k (by omega)
    have h2 := lineB_len (k := k) (by omega) h1.1 h1.2
    unfold preT at *
    have h3 : (lnB k (vB c f p q k)).length = (lineB k (vB c f p q k)).length + 1 := by unfold lnB; simp
    rw [List.range_succ, List.flatMap_append, List.length_append]
    simp only [List.flatMap_cons, List.flatMap_nil, List.append_nil]
    omega

set_option maxRecDepth 100000 in
set_option maxHeartbeats 4000000 in
theorem text_no {w : World} (hG : GB w) (c f p q : Int) (A : Option Addr) (len cap : Nat) (hl : len ≤ 1000000) (hm : mayB c f p q len = false) :
    Calls Tryz.prog 6 #[bootV c f p q A len cap] w fun e w' => e = .returned (.tuple #[.string ⟨#[]⟩, .int .i64 190]) ∧ Below w.heap.size w w' := by
  have HB0 := Lib.hid ((Below.refl w.heap.size w).alloc (Nat.le_refl _) (.cells #[.int .i64 c, .int .i64 f, .int .i64 p, .int .i64 q, .slice A len cap] 24))
  have HC := Lib.hid (fun W => check_any (w := W) c f p q A len cap (by omega))
  rw [hm] at HC
  simp only [Bool.false_eq_true, if_false] at HC
  unfold bootV at HC ⊢
  clear hG hm
  go_enter Tryz.func6, Tryz.ntmps6
  go_wp2_with fail
  refine (HC.out _).mono ?_
  rintro e W1 ⟨rfl, hb1⟩
  have HB1 := Lib.hid (bl_step HB0.out hb1)
  clear hb1
  go_wp2
  go_ret2
  exact ⟨rfl, HB1.out⟩

set_option maxRecDepth 100000 in
set_option maxHeartbeats 8000000 in
theorem text_yes {w : World} (hG : GB w) (c f p q : Int) (A : Option Addr) (cap : Nat) (ws : List Int) (hA : I.WordsAt w A ws) (hr : ∀ x ∈ ws, I.RangeW x) (hm : mayB c f p q ws.length = true) :
    Calls Tryz.prog 6 #[bootV c f p q A ws.length cap] w fun e w' => e = .returned (.tuple #[.string ⟨(textB c f p q ws).toArray⟩, .int .i64 0]) ∧ Below w.heap.size w w' := by
  have hmi := (mayB_iff c f p q ws.length).1 hm
  have hrg : Rg4 c f p q := fun k hk => by
    rcases lt4 hk with rfl | rfl | rfl | rfl <;> (simp only [vB, List.getD_cons_zero, List.getD_cons_succ]; omega)
  have hl := hmi.2.2.2.2.2.2.2.2.2
  obtain ⟨lt, hlt⟩ : ∃ lt : ByteArray, lt = ⟨(I.listP ws).toArray⟩ := ⟨_, rfl⟩
  have hlz : lt.size ≤ 1000000 := by
    have e : lt.size = (I.listP ws).length := by rw [hlt]; exact List.size_toArray
    have := I.list_len ws hr
    omega
  have HL := Lib.hid (fun W (hW : Below w.heap.size w W) => show Calls Tryz.prog 22 #[.slice A ws.length cap] W fun e w' => e = .returned (.string lt) ∧ Below W.heap.size W w' from by
    rw [hlt]
    exact I.list_any (hG.below hW).isa A cap ws (by omega) (hA.below hW) hr)
  have HT := Lib.hid (fun (k : Nat) (hk : k < 4) W (hW : Below w.heap.size w W) => show Calls Tryz.prog 21 #[.int .i64 (vB c f p q k)] W fun e w' => e = .returned (.string ⟨(Lib.itoa (vB c f p q k)).toArray⟩) ∧ Below W.heap.size W w' from
    itoa_any (hG.below hW).isa.pow _ (hrg k hk).1 (hrg k hk).2)
  have HW := Lib.hid (fun (k : Nat) (hk : k < 4) W (hW : Below w.heap.size w W) => (hG.below hW).cell hk)
  have HIX := Lib.hid (fun (k : Nat) (hk : k < 4) (w : World) => index4 c f p q hk w)
  have HPL := Lib.hid (fun (k : Nat) (hk : k ≤ 4) => show (preS c f p q k).size ≤ 160 from by
    have := pre_len hrg k hk
    show (preT c f p q k).toArray.size ≤ 160
    rw [List.size_toArray]
    omega)
  have HIL := Lib.hid (fun (k : Nat) (hk : k < 4) => show (⟨(Lib.itoa (vB c f p q k)).toArray⟩ : ByteArray).size ≤ 21 from by
    have := itoa_len _ (hrg k hk).1 (hrg k hk).2
    show (Lib.itoa (vB c f p q k)).toArray.size ≤ 21
    rw [List.size_toArray]
    exact this)
  have HST := Lib.hid (fun (k : Nat) => pre_step c f p q k ⟨(Lib.itoa (vB c f p q k)).toArray⟩ rfl)
  have HEN := Lib.hid (show (preS c f p q 4 ++ lt : ByteArray) = ⟨(textB c f p q ws).toArray⟩ from by
    refine I.bytes_eq ?_
    rw [ByteArray.data_append, Array.toList_append, hlt]
    unfold textB
    rw [← pre_all]
    rfl)
  have HP0 : Hid ((⟨#[]⟩ : ByteArray) = preS c f p q 0) := rfl
  have HC := Lib.hid (fun W => check_any (w := W) c f p q A ws.length cap (by omega))
  have HS := Lib.hid (fun W => sizes_any (w := W) c f p q A ws.length cap)
  rw [hm] at HC
  simp only [if_true] at HC
  have HB0 := Lib.hid ((Below.refl w.heap.size w).alloc (Nat.le_refl _) (.cells #[.int .i64 c, .int .i64 f, .int .i64 p, .int .i64 q, .slice A ws.length cap] 24))
  have HX0 := Lib.hid (Blk.new w 24 #[.int .i64 c, .int .i64 f, .int .i64 p, .int .i64 q, .slice A ws.length cap])
  unfold bootV at HC HS ⊢
  obtain ⟨T, hT⟩ : ∃ T : ByteArray, (⟨(textB c f p q ws).toArray⟩ : ByteArray) = T := ⟨_, rfl⟩
  rw [hT] at HEN ⊢
  clear hG hA hr hm hmi hrg hlt hT
  go_enter Tryz.func6, Tryz.ntmps6
  go_wp2_with fail
  refine (HC.out _).mono ?_
  rintro e W1 ⟨rfl, hb1⟩
  have hx1 := HX0.out.below hb1 HX0.out.lt
  have HX1 := Lib.hid hx1
  have HB1 := Lib.hid (bl_step HB0.out hb1)
  clear hb1 HX0 HB0 HC
  obtain ⟨x0, x1, x2, x3, x4, xlt⟩ := rcells' hx1
  go_wp2_with fail
  refine (HS.out _).mono ?_
  rintro e W2 ⟨rfl, hb2⟩
  have HX2 := Lib.hid (HX1.out.below hb2 HX1.out.lt)
  have HB2 := Lib.hid (bl_step HB1.out hb2)
  clear hb2 HX1 HB1 HS x0 x1 x2 x3 x4 xlt hx1
  go_wp2_with fail
  go_loopw [5, 15] (fun v i wr => ∃ k : Nat, i = .int .i64 (k : Int) ∧ k ≤ 4 ∧ v = .string (preS c f p q k) ∧ Hid (Blk wr w.heap.size 24 #[.int .i64 c, .int .i64 f, .int .i64 p, .int .i64 q, .slice A ws.length cap]) ∧ Hid (Below w.heap.size w wr)) (fun _ i _ => 4 - (intOf i).toNat)
  case atStart => exact ⟨0, rfl, by omega, rfl, HX2, HB2⟩
  case round =>
    obtain ⟨k, rfl, hk, rfl, HX, HB⟩ := hrel
    clear HX2 HB2
    have hpl := HPL.out k hk
    by_cases hk4 : k < 4
    · have hkb : (k : Int) < 4 := by omega
      have hkb0 : (0 : Int) ≤ (k : Int) := by omega
      have hix := HIX.out k hk4
      obtain ⟨hcw, hgl⟩ := HW.out k hk4 _ HB.out
      have hil := HIL.out k hk4
      have hwl : (wS k).size ≤ 6 := wS_len ⟨k, hk4⟩
      have hst := HST.out k
      have HTK := Lib.hid (HT.out k hk4)
      generalize (⟨(Lib.itoa (vB c f p q k)).toArray⟩ : ByteArray) = ib at *
      generalize vB c f p q k = v at *
      generalize wS k = wk at *
      have HSN := Lib.hid hst
      generalize preS c f p q k = pk at *
      have z3 : (wk ++ ⟨#[32]⟩ : ByteArray).size = wk.size + 1 := by rw [ByteArray.size_append]; rfl
      have z4 : (wk ++ ⟨#[32]⟩ ++ ib : ByteArray).size = wk.size + 1 + ib.size := by rw [ByteArray.size_append, z3]
      have z5 : (wk ++ ⟨#[32]⟩ ++ ib ++ ⟨#[10]⟩ : ByteArray).size = wk.size + 1 + ib.size + 1 := by rw [ByteArray.size_append, z4]; rfl
      have y1 : wk.size + (⟨#[32]⟩ : ByteArray).size ≤ 9223372036854775807 := by have : (⟨#[32]⟩ : ByteArray).size = 1 := rfl; omega
      have y2 : (wk ++ ⟨#[32]⟩ : ByteArray).size + ib.size ≤ 9223372036854775807 := by omega
      have y3 : (wk ++ ⟨#[32]⟩ ++ ib : ByteArray).size + (⟨#[10]⟩ : ByteArray).size ≤ 9223372036854775807 := by have : (⟨#[10]⟩ : ByteArray).size = 1 := rfl; omega
      have y4 : pk.size + (wk ++ ⟨#[32]⟩ ++ ib ++ ⟨#[10]⟩ : ByteArray).size ≤ 9223372036854775807 := by omega
      clear z3 z4 z5
      have q1 : ¬ 9223372036854775807 < wk.size + 1 := by omega
      have q2 : ¬ 9223372036854775807 < wk.size + 1 + ib.size := by omega
      have q3 : ¬ 9223372036854775807 < wk.size + 1 + ib.size + 1 := by omega
      have q4 : ¬ 9223372036854775807 < pk.size + (wk.size + 1 + ib.size + 1) := by omega
      clear y1 y2 y3 y4
      have HWK := Lib.hid (fun W (hW : Below wr.heap.size wr W) => show W.cell? ⟨0, k, none⟩ = some (.string wk) from by rw [hW.cell hgl]; exact hcw)
      have HTR := Lib.hid (fun W (hW : Below wr.heap.size wr W) => show Calls Tryz.prog 21 #[.int .i64 v] W fun e w' => e = .returned (.string ib) ∧ Below wr.heap.size wr w' from (HTK.out W (HB.out.trans (hW.mono HB.out.size))).mono fun e w' ⟨he, hb⟩ => ⟨he, bl_step hW hb⟩)
      have hBc := Below.refl wr.heap.size wr
      clear hst HTK
      go_wp2_with fail
      go_region_held3 (fun W => W.cell? ⟨0, k, none⟩ = some (.string wk))
        (first | exact (have h : Below wr.heap.size wr _ := (by repeat (first | assumption | refine Below.drew ?_)); HWK.out _ h))
        (first | (go_at_call 21; refine (HTR.out _ ?_).mono ?_; (focus (repeat (first | assumption | refine Below.drew ?_))); rintro e W1 ⟨rfl, hW1⟩))
      rename World => wn
      have hbn : Below wr.heap.size wr wn := by assumption
      have HXN := Lib.hid (HX.out.below hbn HX.out.lt)
      have HBN := Lib.hid (bl_step HB.out hbn)
      go_wp2
      go_roundw
      case rel => exact ⟨k + 1, by go_num, by omega, by rw [← HSN.out], HXN, HBN⟩
      case measure => simp [intOf]; omega
    · have hkk : k = 4 := by omega
      subst hkk
      have hx := HX.out
      obtain ⟨x0, x1, x2, x3, x4, xlt⟩ := rcells' hx
      have hen := HEN.out
      generalize preS c f p q 4 = pk at *
      have hcat : pk.size + lt.size ≤ 9223372036854775807 := by omega
      clear hx
      go_wp2_with fail
      refine (HL.out _ HB.out).mono ?_
      rintro e W5 ⟨rfl, hb5⟩
      have HB5 := Lib.hid (bl_step HB.out hb5)
      clear hb5 x0 x1 x2 x3 x4 xlt
      go_wp2
      go_ret2
      exact ⟨by first | rfl | simp, HB5.out⟩
end
end Go.Proofs.YtpikgebfeleajaaGreatDoor
