/-
  trace.Line: the line of what is observed. Condition: the tables lie as the program's text, and the library's, lay them.
-/
import Derived.Deep.RegionHeld3
import Derived.Outline
import Derived.Test.YtpcaeggecojaeaaDoorTrD7
import Derived.Test.YtpcaeggecojaeaaDoorStr5
namespace Go.Proofs.YtpcaeggecojaeaaDoor
open Go.RowKit
set_option linter.unusedVariables false
set_option linter.unusedSimpArgs false

/-- The kinds' words, by their numbers. -/
def kindL : List (List UInt8) := [[], [114, 101, 115, 117, 108, 116], [112, 114, 105, 110, 116], [115, 105, 103, 110, 97, 108], [101, 120, 105, 116]]
def kindW (k : Nat) : List UInt8 := kindL.getD k []
def kindArr : Array Value := (kindL.map strV).toArray
structure Ground (w : World) : Prop where
  pow : Pow w
  max : MaxL w
  errs : Errs w
  words : ∃ t, Blk w 0 t kindArr
theorem Ground.wlt {w : World} (h : Ground w) : 0 < w.heap.size := h.words.elim fun _ x => x.lt
theorem Ground.below {w w' : World} (h : Ground w) (hb : Below w.heap.size w w') : Ground w' :=
  ⟨h.pow.below hb, h.max.below hb, h.errs.below hb, h.words.elim fun t x => ⟨t, x.below hb x.lt⟩⟩
theorem Ground.word {w : World} (h : Ground w) {k : Nat} (hk : k < 5) : w.cell? ⟨0, k, none⟩ = some (strV (kindW k)) := by
  obtain ⟨t, h⟩ := h.words
  rw [h.cell]
  have hl : kindL[k]? = some (kindW k) := by
    unfold kindW
    rw [List.getD_eq_getElem?_getD, List.getElem?_eq_getElem (show k < kindL.length from hk)]
    rfl
  unfold kindArr
  rw [List.getElem?_toArray, List.getElem?_map, hl]
  rfl
/-- The words of the line. -/
def lineW (x : S) : List (List UInt8) := if x.k = 1 then [Lib.itoa x.p, kindW x.k.toNat, Lib.itoa x.c, Lib.decDigits x.v.toNat] else [Lib.itoa x.p, kindW x.k.toNat, Lib.decDigits x.v.toNat]
def lineL (x : S) : List UInt8 := glue (lineW x)
theorem kindW_len (k : Nat) : (kindW k).length ≤ 6 := by
  by_cases h : k < 5
  · have h5 : k = 0 ∨ k = 1 ∨ k = 2 ∨ k = 3 ∨ k = 4 := by omega
    rcases h5 with rfl | rfl | rfl | rfl | rfl <;> decide
  · unfold kindW
    rw [List.getD_eq_getElem?_getD, List.getElem?_eq_none (by simp [kindL]; omega)]
    simp
theorem glue3 (a b c : List UInt8) : glue [a, b, c] = a ++ 32 :: (b ++ 32 :: c) := rfl
theorem glue4 (a b c d : List UInt8) : glue [a, b, c, d] = a ++ 32 :: (b ++ 32 :: (c ++ 32 :: d)) := rfl

theorem ccells {w : World} {g : Nat} {t : TypeId} {a b c d : Value} (h : Blk w g t #[a, b, c, d]) : w.cell? ⟨g, 0, none⟩ = some a ∧ w.cell? ⟨g, 1, none⟩ = some b ∧ w.cell? ⟨g, 2, none⟩ = some c ∧ w.cell? ⟨g, 3, none⟩ = some d :=
  ⟨(h.cell 0).trans rfl, (h.cell 1).trans rfl, (h.cell 2).trans rfl, (h.cell 3).trans rfl⟩
theorem bl_new {a b : World} (h : Below a.heap.size a b) (o : Obj) : Below a.heap.size a (b.alloc o) := h.alloc h.size o
theorem bl_step {B : Nat} {a b c : World} (h : Below B a b) (hB : B ≤ b.heap.size) (k : Below b.heap.size b c) : Below B a c := h.trans (k.mono hB)

theorem lineW_one {p c : Int} {k u : Nat} (h : k = 1) : lineW ⟨p, k, c, u⟩ = [Lib.itoa p, kindW k, Lib.itoa c, Lib.decDigits u] := by
  subst h
  rfl
theorem lineW_two {p c : Int} {k u : Nat} (h : ¬ k = 1) : lineW ⟨p, k, c, u⟩ = [Lib.itoa p, kindW k, Lib.decDigits u] := by
  unfold lineW
  rw [if_neg (by simp only; omega)]
  rfl
theorem len_four {p c : Int} {k u : Nat} (hp : 1 ≤ p ∧ p ≤ 65535) (hc : -9223372036854775808 ≤ c ∧ c ≤ 9223372036854775807) (hu : u < 4294967296) : (glue [Lib.itoa p, kindW k, Lib.itoa c, Lib.decDigits u]).length ≤ 140737488355328 := by
  have h1 := itoa_len p (by omega) (by omega)
  have h2 := kindW_len k
  have h3 := itoa_len c hc.1 hc.2
  have h4 := dec_len (u := u) (by omega)
  rw [glue4]
  simp only [List.length_append, List.length_cons]
  omega
theorem len_three {p : Int} {k u : Nat} (hp : 1 ≤ p ∧ p ≤ 65535) (hu : u < 4294967296) : (glue [Lib.itoa p, kindW k, Lib.decDigits u]).length ≤ 140737488355328 := by
  have h1 := itoa_len p (by omega) (by omega)
  have h2 := kindW_len k
  have h4 := dec_len (u := u) (by omega)
  rw [glue3]
  simp only [List.length_append, List.length_cons]
  omega

set_option maxRecDepth 100000 in
set_option maxHeartbeats 4000000 in
theorem line_yes {w : World} (hG : Ground w) (p c : Int) (k u : Nat) (hu : u < 4294967296) (hm : May ⟨p, k, c, u⟩) :
    Calls Tryd.prog 13 #[.agg #[.int .i64 p, .int .i64 k, .int .i64 c, .int .u32 u]] w fun e w' => e = .returned (.tuple #[strV (lineL ⟨p, k, c, u⟩), .int .i64 0]) ∧ Below w.heap.size w w' := by
  obtain ⟨W0, hW0⟩ : ∃ W0, W0 = w.alloc (.cells #[.int .i64 p, .int .i64 k, .int .i64 c, .int .u32 u] 27) := ⟨_, rfl⟩
  obtain ⟨bx, hbx⟩ : ∃ bx, bx = w.heap.size := ⟨_, rfl⟩
  have hB0 : Below w.heap.size w W0 := by rw [hW0]; exact (Below.refl _ _).alloc (Nat.le_refl _) _
  have hX0 : Blk W0 bx 27 #[.int .i64 p, .int .i64 k, .int .i64 c, .int .u32 u] := by rw [hW0, hbx]; exact Blk.new _ _ _
  have hG0 := hG.below hB0
  obtain ⟨i0, hi, hz0, hz1, hz2⟩ := info_parts infoStr
  have hp : 1 ≤ p ∧ p ≤ 65535 := ⟨hm.1, hm.2.1⟩
  have hk : 1 ≤ k ∧ k ≤ 4 := by have := hm.2.2.1; have := hm.2.2.2.1; simp only at *; omega
  have HC := Lib.hid (fun W => show Calls Tryd.prog 15 #[.agg #[.int .i64 p, .int .i64 k, .int .i64 c, .int .u32 u]] W fun e w' => e = .returned (.int .i64 0) ∧ Below W.heap.size W w' from by
    have h := check_any (w := W) p k c u (by omega)
    rw [mayN_yes hm] at h
    exact h)
  have HP := Lib.hid (fun W (hW : Below W0.heap.size W0 W) => itoa_any (hG0.below hW).pow p (by omega) (by omega))
  have HU := (fun W (hW : Below W0.heap.size W0 W) => formatUint_any (hG0.below hW).pow u (by omega))
  have HW := Lib.hid (fun W (hW : Below W0.heap.size W0 W) => (hG0.below hW).word (k := k) (by omega))
  have HX := Lib.hid (fun W (hW : Below W0.heap.size W0 W) => hX0.below hW hX0.lt)
  have k0 : (0 : Int) ≤ (k : Int) := by omega
  have k5 : (k : Int) < 5 := by omega
  have u0 : (0 : Int) ≤ (u : Int) := by omega
  have u1 : (u : Int) ≤ 4294967295 := by omega
  obtain ⟨sp, hsp⟩ : ∃ sp : ByteArray, sp = ⟨(Lib.itoa p).toArray⟩ := ⟨_, rfl⟩
  obtain ⟨sk, hsk⟩ : ∃ sk : ByteArray, sk = ⟨(kindW k).toArray⟩ := ⟨_, rfl⟩
  have HS := Lib.hid (fun W (hW : Below W0.heap.size W0 W) => show W.cell? ⟨w.heap.size, 0, none⟩ = some (.int .i64 p) ∧ W.cell? ⟨w.heap.size, 1, none⟩ = some (.int .i64 k) ∧ W.cell? ⟨0, k, none⟩ = some (.string sk) from ⟨hbx ▸ (ccells (HX.out W hW)).1, hbx ▸ (ccells (HX.out W hW)).2.1, hsk ▸ HW.out W hW⟩)
  have HIP := Lib.hid (fun W (hW : Below W0.heap.size W0 W) => (HP.out W hW).mono fun e w' h => show e = .returned (.string sp) ∧ Below W0.heap.size W0 w' from ⟨hsp ▸ h.1, bl_step hW hW.size h.2⟩)
  have HSP := Lib.hid hsp
  have HG0 := Lib.hid hG0
  have HCR := Lib.hid (show k = 1 → -9223372036854775808 ≤ c ∧ c ≤ 9223372036854775807 from fun h => by have := hm.2.2.2.2.1 (by simp only; omega); simp only at this; omega)
  have HSK := Lib.hid hsk
  clear hG0 hX0 hm HP HW hsp hsk
  go_enter Tryd.func13, Tryd.ntmps13
  go_wp2_with fail
  refine (HC.out _).mono ?_
  rintro e w1 ⟨rfl, hb1⟩
  rw [← hW0] at hb1
  have s1 := hb1.size
  have HW0 := Lib.hid hW0
  have HBX := Lib.hid hbx
  clear hW0 HC hbx
  go_wp2_with fail
  go_region_held3 (fun W => W.cell? ⟨w.heap.size, 0, none⟩ = some (.int .i64 p) ∧ W.cell? ⟨w.heap.size, 1, none⟩ = some (.int .i64 k) ∧ W.cell? ⟨0, k, none⟩ = some (.string sk))
    (first | exact (have h : Below W0.heap.size W0 _ := (by repeat (first | assumption | refine Below.drew ?_ | refine belowN ?_ _ | refine bl_new ?_ _)); HS.out _ h))
    (first | (go_at_call 28; refine (HIP.out _ ?_).mono ?_; (focus (repeat (first | assumption | refine Below.drew ?_ | refine belowN ?_ _ | refine bl_new ?_ _))); rintro e W1 ⟨rfl, hW1⟩))
  have hK1 : Below W0.heap.size W0 W1 := by assumption
  obtain ⟨W2, hW2⟩ : ∃ W2, W2 = W1.alloc (.cells #[.string sp, .string sk] 9) := ⟨_, rfl⟩
  rw [← hW2]
  have hK2 : Below W0.heap.size W0 W2 := by rw [hW2]; exact bl_new hK1 _
  have hown2 : W2.ownsRow W0.heap.size 9 1 (.slice (some ⟨W1.heap.size, 0, none⟩) 2 2) 2 [.string sp, .string sk] := by
    have h := own_of_blk (B := W0.heap.size) (xs := [Lib.itoa p, kindW k]) (w := W2) (g := W1.heap.size) (by rw [hW2]; have := Blk.new W1 9 #[.string sp, .string sk]; rw [HSP.out, HSK.out] at this ⊢; exact this) hK1.size (by simp)
    rw [HSP.out, HSK.out]
    exact h
  have hX2 := HX.out W2 hK2
  rw [HBX.out] at hX2
  have hcc := ccells hX2
  have s2 := hK2.size
  clear hW2 hK1 HS
  generalize W1.heap.size = g1 at *
  by_cases hk1 : k = 1
  · have hk2 : ((k : Int) == 1) = true := by rw [hk1]; rfl
    have HC2 := fun W (hW : Below W0.heap.size W0 W) => itoa_any (HG0.out.below hW).pow c (HCR.out hk1).1 (HCR.out hk1).2
    obtain ⟨sc, hsc⟩ : ∃ sc : ByteArray, sc = ⟨(Lib.itoa c).toArray⟩ := ⟨_, rfl⟩
    obtain ⟨su, hsu⟩ : ∃ su : ByteArray, su = ⟨(Lib.decDigits u).toArray⟩ := ⟨_, rfl⟩
    rw [← hsc] at HC2
    rw [← hsu] at HU
    have HSC := Lib.hid hsc
    have HSU := Lib.hid hsu
    have HKK := Lib.hid hk1
    obtain ⟨hc0, hc1, hc2, hc3⟩ := hcc
    clear hsc hsu hk1
    have HHC := Lib.hid HC2
    have HHU := Lib.hid HU
    clear HC2 HU
    go_wp2_with fail
    refine (HHC.out _ hK2).mono ?_
    rintro e W3 ⟨rfl, hb3⟩
    have hown3 := ownsRow_below hown2 hb3
    have hK3 := bl_step hK2 hK2.size hb3
    have hX3 := ccells (hX2.below hb3 hX2.lt)
    clear hX2 hown2 hc0 hc1 hc2 hc3
    obtain ⟨hc0, hc1, hc2, hc3⟩ := hX3
    have s3 := hb3.size
    go_wp2_with (at_builtin; refine wpList_append_own _ rfl _ _ 53 rfl W0.heap.size 9 i0 (.string ⟨#[]⟩) 1 16 Tryd.underlying53 hi hz0 hz1 hz2 rfl (by decide) _ _ _ rfl (hown3.alloc _) ⟨W3.heap.size, 0, none⟩ 1 1 [.string sc] rfl rfl (cells_new _ _ _) (by simp [Value.oneCell']) (by unfold maxLen; omega) (by omega) (by simp; omega) ?_)
    intro v4 w4 hown4 hgrow4 _
    have hK4 := below_grown (bl_new hK3 _) hgrow4 (own_block hown3) (by simp; omega)
    have s4 := hK4.size
    clear hgrow4
    clear hown3 hc0 hc1 hc2 hc3
    obtain ⟨hc0, hc1, hc2, hc3⟩ := ccells (HBX.out ▸ HX.out w4 hK4)
    go_wp2_with fail
    refine (HHU.out _ hK4).mono ?_
    rintro e W5 ⟨rfl, hb5⟩
    have hown5 := ownsRow_below hown4 hb5
    have hK5 := bl_step hK4 hK4.size hb5
    have s5 := hb5.size
    clear hb5 hown4
    go_wp2_with (at_builtin; refine wpList_append_own _ rfl _ _ 53 rfl W0.heap.size 9 i0 (.string ⟨#[]⟩) 1 16 Tryd.underlying53 hi hz0 hz1 hz2 rfl (by decide) _ _ _ rfl (hown5.alloc _) ⟨W5.heap.size, 0, none⟩ 1 1 [.string su] rfl rfl (cells_new _ _ _) (by simp [Value.oneCell']) (by unfold maxLen; omega) (by omega) (by simp; omega) ?_)
    intro v6 w6 hown6 hgrow6 _
    have hK6 := below_grown (bl_new hK5 _) hgrow6 (own_block hown5) (by simp; omega)
    have s6 := hK6.size
    clear hgrow6
    have HJ := Lib.hid (join_own (w := w6) (B := W0.heap.size) (v := v6) (xs := lineW ⟨p, k, c, u⟩) (by rw [lineW_one HKK.out]; have h := hown6; rw [HSP.out, HSK.out, HSC.out, HSU.out] at h; exact h) (by rw [lineW_one HKK.out]; simp) (by rw [lineW_one HKK.out]; exact len_four hp (HCR.out HKK.out) hu) (by rw [lineW_one HKK.out]; simp))
    clear hown6
    go_wp2_with fail
    refine HJ.out.mono ?_
    rintro e w9 ⟨rfl, hb9⟩
    have hb10 := bl_step hK6 hK6.size hb9
    clear hb9
    go_wp2
    go_ret2
    exact ⟨rfl, hB0.trans (hb10.mono hB0.size)⟩
  · have hk2 : ((k : Int) == 1) = false := beq_eq_false_iff_ne.2 (by omega)
    obtain ⟨su, hsu⟩ : ∃ su : ByteArray, su = ⟨(Lib.decDigits u).toArray⟩ := ⟨_, rfl⟩
    rw [← hsu] at HU
    have HSU := Lib.hid hsu
    have HKK := Lib.hid hk1
    obtain ⟨hc0, hc1, hc2, hc3⟩ := hcc
    have hK4 := hK2
    have hown4 := hown2
    clear hsu hk1 hX2 hown2 hK2
    have HHU := Lib.hid HU
    clear HU
    go_wp2_with fail
    refine (HHU.out _ hK4).mono ?_
    rintro e W5 ⟨rfl, hb5⟩
    have hown5 := ownsRow_below hown4 hb5
    have hK5 := bl_step hK4 hK4.size hb5
    have s5 := hb5.size
    clear hb5 hown4
    go_wp2_with (at_builtin; refine wpList_append_own _ rfl _ _ 53 rfl W0.heap.size 9 i0 (.string ⟨#[]⟩) 1 16 Tryd.underlying53 hi hz0 hz1 hz2 rfl (by decide) _ _ _ rfl (hown5.alloc _) ⟨W5.heap.size, 0, none⟩ 1 1 [.string su] rfl rfl (cells_new _ _ _) (by simp [Value.oneCell']) (by unfold maxLen; omega) (by omega) (by simp; omega) ?_)
    intro v6 w6 hown6 hgrow6 _
    have hK6 := below_grown (bl_new hK5 _) hgrow6 (own_block hown5) (by simp; omega)
    have s6 := hK6.size
    clear hgrow6
    have HJ := Lib.hid (join_own (w := w6) (B := W0.heap.size) (v := v6) (xs := lineW ⟨p, k, c, u⟩) (by rw [lineW_two HKK.out]; have h := hown6; rw [HSP.out, HSK.out, HSU.out] at h; exact h) (by rw [lineW_two HKK.out]; simp) (by rw [lineW_two HKK.out]; exact len_three hp hu) (by rw [lineW_two HKK.out]; simp))
    clear hown6
    go_wp2_with fail
    refine HJ.out.mono ?_
    rintro e w9 ⟨rfl, hb9⟩
    have hb10 := bl_step hK6 hK6.size hb9
    clear hb9
    go_wp2
    go_ret2
    exact ⟨rfl, hB0.trans (hb10.mono hB0.size)⟩

theorem line_no {w : World} (p k c v : Int) (hv : 0 ≤ v) (hm : ¬ May ⟨p, k, c, v⟩) :
    Calls Tryd.prog 13 #[.agg #[.int .i64 p, .int .i64 k, .int .i64 c, .int .u32 v]] w fun e w' => e = .returned (.tuple #[.string ⟨#[]⟩, .int .i64 210]) ∧ Below w.heap.size w w' := by
  have HC := Lib.hid (fun W => show Calls Tryd.prog 15 #[.agg #[.int .i64 p, .int .i64 k, .int .i64 c, .int .u32 v]] W fun e w' => e = .returned (.int .i64 210) ∧ Below W.heap.size W w' from by
    have h := check_any (w := W) p k c v hv
    rw [mayN_no hm] at h
    exact h)
  clear hm
  go_enter Tryd.func13, Tryd.ntmps13
  go_wp2_with fail
  refine (HC.out _).mono ?_
  rintro e w1 ⟨rfl, hb1⟩
  have hb := ((Below.refl w.heap.size w).alloc (Nat.le_refl _) (.cells #[.int .i64 p, .int .i64 k, .int .i64 c, .int .u32 v] 27)).trans (hb1.mono (by simp))
  clear hb1
  go_wp2
  go_ret2
  exact ⟨rfl, hb⟩
end Go.Proofs.YtpcaeggecojaeaaDoor
