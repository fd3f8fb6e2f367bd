/-
  Bytes put into a frame's row; New, Drop of frames. Condition: the frames lie in blocks of their own.
-/
import Derived.Deep.MidRow
import Derived.Test.YtlecfdchmcghlaaFr2
namespace Go.Proofs.Ytlecfdchmcghlaa
open Go.RowKit Go.Lib
set_option linter.unusedVariables false
set_option linter.unusedSimpArgs false

section
variable {w : World} {fb lb cap : Nat} {F : Fs}
theorem FrAt.putR (h : FrAt w fb lb cap F) {k v : Nat} (hk : k < F.n) (hv : v ≤ 1000000) : FrAt (w.setCell ⟨lb, k * 65 + 64, none⟩ (.int .i64 v)) fb lb cap (F.setR k v) :=
  h.put hk (by omega) _ (frows_setR h.ok k _) rfl (h.ok.setR hk hv)
theorem FrAt.putB {fb lb cap k : Nat} : ∀ (l : List Int) (j : Nat) (w : World) (F : Fs), k < F.n → FrAt w fb lb cap F → j + l.length ≤ 64 → (∀ x ∈ l, 0 ≤ x ∧ x ≤ 255) →
    FrAt (w.setCells lb (k * 65 + j) (l.map fun x => .int .u8 x)) fb lb cap (F.setB k (putL (F.b k) j l))
  | [], j, w, F, hk, h, _, _ => by
    have e : F.setB k (putL (F.b k) j []) = F := by
      unfold Fs.setB putL
      cases F with | mk n b r =>
      congr 1
      funext i
      dsimp only
      split
      · next he => rw [he]
      · rfl
    rw [e]
    exact h
  | x :: l, j, w, F, hk, h, hj, hl => by
    rw [List.length_cons] at hj
    have hx := hl x (List.mem_cons_self ..)
    have hset : ∀ y ∈ (F.b k).set j x, 0 ≤ y ∧ y ≤ 255 := fun y hy => by
      rcases List.mem_or_eq_of_mem_set hy with hy | rfl
      · exact h.ok.low k y hy
      · exact hx
    have h1 : FrAt (w.setCell ⟨lb, k * 65 + j, none⟩ (.int .u8 x)) fb lb cap (F.setB k ((F.b k).set j x)) :=
      h.put hk (by omega) _ (frows_setB h.ok k j (by omega) x) rfl (h.ok.setB k (by rw [List.length_set]; exact h.ok.len k) hset)
    have h2 := FrAt.putB l (j + 1) _ _ (show k < (F.setB k ((F.b k).set j x)).n from hk) h1 (by omega) (fun y hy => hl y (List.mem_cons_of_mem _ hy))
    rw [Fs.setB_setB, Fs.setB_at] at h2
    exact h2
theorem but_cells {S : Nat → Prop} {b : Nat} (hb : S b) : ∀ (vs : List Value) (o : Nat) (a w : World), But S a w → But S a (w.setCells b o vs)
  | [], _, _, _, h => h
  | v :: vs, o, a, w, h => but_cells hb vs (o + 1) a _ (h.setCell (p := ⟨b, o, none⟩) (.inl hb) v)
def zrow : List Value := (z64.map fun x => Value.int .u8 x) ++ [.int .i64 0]
theorem zeroF (w : World) : (zeroValue 99).run Try.prog w = .ok (.agg zrow.toArray) w := by kernel_rfl
/-- Frame k is given back once. -/
def dropF (F : Fs) (k : Int) : Fs := if 0 ≤ k ∧ k < F.n ∧ F.r k.toNat ≠ 0 then (if F.r k.toNat = 1 then (F.setR k.toNat 0).setB k.toNat z64 else F.setR k.toNat (F.r k.toNat - 1)) else F
def dropN (F : Fs) (k : Int) : Int := if 0 ≤ k ∧ k < F.n ∧ F.r k.toNat ≠ 0 then F.r k.toNat - 1 else 0
theorem setCells_snoc (b : Nat) : ∀ (vs : List Value) (v : Value) (o : Nat) (w : World), w.setCells b o (vs ++ [v]) = (w.setCells b o vs).setCell ⟨b, o + vs.length, none⟩ v
  | [], v, o, w => rfl
  | x :: vs, v, o, w => by
    show (w.setCell ⟨b, o, none⟩ x).setCells b (o + 1) (vs ++ [v]) = _
    rw [setCells_snoc b vs v (o + 1), List.length_cons, show o + 1 + vs.length = o + (vs.length + 1) by omega]; rfl
theorem FrAt.putZ (h : FrAt w fb lb cap F) {k : Nat} (hk : k < F.n) (hr : F.r k = 0) : FrAt (w.setCells lb (k * 65) zrow) fb lb cap (F.setB k z64) := by
  unfold zrow
  rw [setCells_snoc, List.length_map, z64_len]
  have h1 := FrAt.putB (fb := fb) (cap := cap) z64 0 w F hk h (by decide) z64_low
  rw [putL_whole (by rw [h.ok.len]; rfl), Nat.add_zero] at h1
  have h2 := h1.putR (k := k) (v := 0) hk (by omega)
  have e : (F.setB k z64).setR k 0 = F.setB k z64 := by
    unfold Fs.setR Fs.setB
    dsimp only
    congr 1
    funext i
    split
    · next he => rw [he, hr]
    · rfl
  rw [e] at h2
  exact h2
theorem FrAt.there (h : FrAt w fb lb cap F) {k : Nat} (hk : k < F.n) : w.there lb (k * 65) 65 := fun j hj => by
  refine ⟨?_, h.frozen _⟩
  rw [frow_cell h hk hj]
  have hl := frow_len h.ok k
  rw [List.getElem?_eq_getElem (by omega)]; rfl

set_option maxRecDepth 100000 in
set_option maxHeartbeats 4000000 in
theorem frDrop_any (h : FrAt w fb lb cap F) (k : Int) :
    Calls Try.prog 60 #[.pointer (some ⟨fb, 0, none⟩), .int .i64 k] w fun e w' => e = .returned (.tuple #[.int .i64 (dropN F k), .int .i64 (mayE F k)]) ∧ FrOut w w' fb lb cap (dropF F k) := by
  have HM := Lib.hid (frMay_any h k)
  have HH := Lib.hid h
  have c0 := h.slice
  have hlt := h.p.lt
  have hlt2 := h.lt.2
  by_cases hm : 0 ≤ k ∧ k < F.n ∧ F.r k.toNat ≠ 0
  · have he : mayE F k = 0 := if_pos hm
    have hs : dropF F k = if F.r k.toNat = 1 then (F.setR k.toNat 0).setB k.toNat z64 else F.setR k.toNat (F.r k.toNat - 1) := if_pos hm
    have hd : dropN F k = F.r k.toNat - 1 := if_pos hm
    obtain ⟨k, rfl⟩ := Int.eq_ofNat_of_zero_le hm.1
    rw [Int.toNat_natCast] at hs hd
    have hm3 := hm.2.2
    rw [Int.toNat_natCast] at hm3
    rw [he] at HM ⊢
    rw [hs, hd]
    have hk : k < F.n := by omega
    have hki : (k : Int) < (F.n : Int) := by omega
    have htop := h.ok.top k
    have cr := h.refs hk
    have cf := h.frozen (k * 65 + 64)
    clear he hm hs hd
    by_cases h1 : F.r k = 1
    · rw [if_pos h1]
      rw [h1] at cr ⊢
      have HF := Lib.hid (show FrAt (w.setCell ⟨lb, k * 65 + 64, none⟩ (.int .i64 0)) fb lb cap (F.setR k 0) from h.putR (k := k) (v := 0) hk (by omega))
      have HB := Lib.hid (But.setCell (S := fun k => k = lb) (But.refl _ w) (p := ⟨lb, k * 65 + 64, none⟩) (.inl rfl) (.int .i64 0))
      clear h HH
      go_enter Try.func60, Try.ntmps60
      go_wp2_with (fail)
      refine HM.out.mono ?_
      rintro e _ ⟨rfl, rfl⟩
      go_upto_region 6 with (fail)
      generalize w.setCell ⟨lb, k * 65 + 64, none⟩ (.int .i64 0) = W1 at *
      clear cr cf hlt hlt2 c0
      have hr0 : (F.setR k 0).r k = 0 := if_pos rfl
      have c1 := HF.out.refs (k := k) hk
      rw [hr0] at c1
      have l1 := HF.out.lt.2
      have HT := Lib.hid (HF.out.there (k := k) hk)
      have HF2 := Lib.hid (show FrAt (W1.setCells lb (k * 65) zrow) fb lb cap ((F.setR k 0).setB k z64) from HF.out.putZ hk hr0)
      have HB2 := Lib.hid (but_cells (S := fun k => k = lb) rfl zrow (k * 65) _ _ HB.out)
      have hst := run_storeCells_cells (P := Try.prog) lb (k * 65) zrow 0 W1 (fun j hj => by simpa using (HT.out j hj).1) (fun j hj => by simpa using (HT.out j hj).2) (by decide +kernel)
      simp only [Nat.add_zero] at hst
      clear HF HB hr0
      go_upto_region 7 with (fail)
      have hz := zeroF W1
      go_upto_region 8 with (fail)
      generalize W1.setCells lb (k * 65) zrow = W2 at *
      have c2 := HF2.out.refs (k := k) hk
      have hr2 : ((F.setR k 0).setB k z64).r k = 0 := if_pos rfl
      rw [hr2] at c2
      have l2 := HF2.out.lt.2
      go_wp2
      go_ret2
      exact ⟨rfl, HF2.out, HB2.out⟩
    · rw [if_neg h1]
      have HF := Lib.hid (h.putR (k := k) (v := F.r k - 1) hk (by omega))
      have hr1 : ((F.r k : Int) - 1 == 0) = false := by simpa using (show (F.r k : Int) - 1 ≠ 0 by omega)
      rw [show (((F.r k - 1 : Nat)) : Int) = (F.r k : Int) - 1 by omega] at HF
      clear h HH
      go_enter Try.func60, Try.ntmps60
      go_wp2_with (fail)
      refine HM.out.mono ?_
      rintro e _ ⟨rfl, rfl⟩
      go_wp2
      go_ret2
      exact ⟨rfl, HF.out, But.setCell (S := fun k => k = lb) (But.refl _ w) (p := ⟨lb, k * 65 + 64, none⟩) (.inl rfl) _⟩
  · have he : mayE F k = 41 := if_neg hm
    have hs : dropF F k = F := if_neg hm
    have hd : dropN F k = 0 := if_neg hm
    rw [he] at HM ⊢
    rw [hs, hd]
    clear h he hm hs hd
    go_enter Try.func60, Try.ntmps60
    go_wp2_with (fail)
    refine HM.out.mono ?_
    rintro e _ ⟨rfl, rfl⟩
    go_wp2
    go_ret2
    exact ⟨rfl, HH.out, But.refl _ _⟩
end
end Go.Proofs.Ytlecfdchmcghlaa
