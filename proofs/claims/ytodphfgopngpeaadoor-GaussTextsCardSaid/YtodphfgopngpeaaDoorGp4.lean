/-
  The law GaussBack, walked. Condition: the library's tables and errors lie as its text lays them; words are words.
-/
import Derived.Test.YtodphfgopngpeaaDoorGp3
import Derived.Test.YtodphfgopngpeaaDoorGaw
import Derived.Test.YtodphfgopngpeaaDoorGau10
namespace Go.Proofs.YtodphfgopngpeaaDoor
open Go.RowKit
set_option linter.unusedVariables false
set_option linter.unusedSimpArgs false
attribute [local irreducible] floatOfInt wz

theorem wordsMk {w : World} (p q : Int) : Calls Tryd.prog 15 #[mk p q] w fun e w' => e = .returned (.tuple #[.int .u32 (wz p % 4294967296), .int .u32 (wz q % 4294967296)]) ∧ Below w.heap.size w w' := by
  have h := gWords_any (w := w) (floatOfInt .f64 (wz p)) (floatOfInt .f64 (wz q))
  rw [made_re, made_im] at h
  exact h
theorem mk_wz (p q : Int) : mk (wz p) (wz q) = mk p q := mk_same (wz_wz p) (wz_wz q)
theorem wrap_back {p : Int} (h : InR p) : wrap32 (p % 4294967296) = p := by
  have := h.1; have := h.2
  unfold wrap32; omega
theorem inR_wz (p : Int) : InR (wz p) := wz_range p
attribute [local semireducible] wz in
theorem wz_words (x : Int) (h : 0 ≤ x ∧ x ≤ 4294967295) : (wz (wrap32 x) % 4294967296) % 1048576 = x % 1048576 := by
  unfold wz wrap32; omega
/-- What gauss.Parse tells of any text. -/
theorem parse_any (s : ByteArray) (hs : s.size ≤ 1000000) : (∃ p q, InR p ∧ InR q ∧ s = ⟨(textG p q).toArray⟩ ∧ ∀ W, GGr W → Calls Tryd.prog 17 #[.string s] W fun e w' => e = .returned (.tuple #[mk p q, .int .i64 0]) ∧ Below W.heap.size W w') ∨
    ((∀ p q, InR p → InR q → s.data.toList ≠ textG p q) ∧ ∀ W, GGr W → Calls Tryd.prog 17 #[.string s] W fun e w' => e = .returned (.tuple #[.complex .f64 0 0, .int .i64 20]) ∧ Below W.heap.size W w') := by
  by_cases h : ∃ p q, InR p ∧ InR q ∧ s.data.toList = textG p q
  · obtain ⟨p, q, hp, hq, he⟩ := h
    have hse : s = ⟨(textG p q).toArray⟩ := ByteArray.ext (by rw [← he])
    exact .inl ⟨p, q, hp, hq, hse, fun W hW => parse_yes hW hp hq s hse⟩
  · have hn : ∀ p q, InR p → InR q → s.data.toList ≠ textG p q := fun p q hp hq he => h ⟨p, q, hp, hq, he⟩
    exact .inr ⟨hn, fun W hW => parse_no hW s hs hn⟩

set_option maxRecDepth 100000 in
set_option maxHeartbeats 8000000 in
theorem backLaw_any {w : World} (hG : GGr w) (p q x y : Int) (hx : 0 ≤ x ∧ x ≤ 4294967295) (hy : 0 ≤ y ∧ y ≤ 4294967295) (s : ByteArray) (hmax : s.size ≤ 9223372036854775807) :
    Calls Tryd.prog 7 #[.int .i64 p, .int .i64 q, .int .u32 x, .int .u32 y, .string s] w fun e w' => e = .returned (.bool true) ∧ Below w.heap.size w w' := by
  have HA := Lib.hid (fun W => alive_any (w := W))
  by_cases hs : s.size ≤ 60
  · have HM := Lib.hid (fun W => gMake_any (w := W) p q)
    have HW := Lib.hid (fun W => wordsMk (w := W) p q)
    have HT := Lib.hid (fun W (hW : Pow W) => textMk hW p q)
    have HP := Lib.hid (fun W (hW : GGr W) => show Calls Tryd.prog 17 #[.string ⟨(textG (wz p) (wz q)).toArray⟩] W fun e w' => e = .returned (.tuple #[mk p q, .int .i64 0]) ∧ Below W.heap.size W w' from by
      have h := parse_yes hW (inR_wz p) (inR_wz q) _ rfl
      rw [mk_wz] at h
      exact h)
    have HF := Lib.hid (fun W => gFromWords_any (w := W) x y hx hy)
    have HW2 := Lib.hid (fun W => wordsMk (w := W) (wrap32 x) (wrap32 y))
    have HQ := Lib.hid (fun W => partsMk (w := W) p q)
    have HY := Lib.hid (fun W => mayMk (w := W) p q)
    have HM2 := Lib.hid (fun W => show Calls Tryd.prog 9 #[.int .i64 (wz p), .int .i64 (wz q)] W fun e w' => e = .returned (mk p q) ∧ W = w' from by
      have h := gMake_any (w := W) (wz p) (wz q)
      rw [mk_wz] at h
      exact h)
    have HF2 := Lib.hid (fun W => show Calls Tryd.prog 19 #[.int .u32 (wz p % 4294967296), .int .u32 (wz q % 4294967296)] W fun e w' => e = .returned (mk p q) ∧ W = w' from by
      have h := gFromWords_any (w := W) (wz p % 4294967296) (wz q % 4294967296) (by omega) (by omega)
      rw [wrap_back (inR_wz p), wrap_back (inR_wz q), mk_wz] at h
      exact h)
    have hc := wz_words x hx
    have hd := wz_words y hy
    have k1 := fun w : World => mk_eql p q w
    have g1 := fun (x y : Operand) (w : World) => mk_guard p q x y w
    have hPS := parse_any s (by omega)
    have HTS := Lib.hid (fun W (hW : Pow W) r t => textMk hW r t)
    have HG := Lib.hid hG
    have hx0 := hx.1
    have hy0 := hy.1
    have hsi : (s.size : Int) ≤ 60 := by omega
    obtain ⟨C, hC, hC0⟩ : ∃ C : Int, wz (wrap32 x) % 4294967296 = C ∧ 0 ≤ C := ⟨_, rfl, by omega⟩
    obtain ⟨D, hD, hD0⟩ : ∃ D : Int, wz (wrap32 y) % 4294967296 = D ∧ 0 ≤ D := ⟨_, rfl, by omega⟩
    rw [hC] at HW2 hc
    rw [hD] at HW2 hd
    clear hC hD hx hy hG hmax hs
    generalize mk p q = v at *
    generalize mk (wrap32 x) (wrap32 y) = u at *
    generalize wz p = p' at *
    generalize wz q = q' at *
    obtain ⟨T, hT⟩ : ∃ T : ByteArray, ⟨(textG p' q').toArray⟩ = T := ⟨_, rfl⟩
    rw [hT] at HT HP
    clear hT
    have HPS := Lib.hid hPS
    clear hPS
    rcases HPS.out with ⟨r, t, hr, ht, hse, hps⟩ | ⟨hse, hps⟩
    · have HS := Lib.hid hps
      have HT2 := Lib.hid (fun W (hW : Pow W) => show Calls Tryd.prog 21 #[mk r t] W fun e w' => e = .returned (.string s) ∧ Below W.heap.size W w' from by
        have h := HTS.out W hW r t
        rw [hr.wz, ht.wz, ← hse] at h
        exact h)
      have hst := seq_true (rfl : s = s)
      clear hps hr ht hse HTS HPS
      generalize mk r t = z at *
      go_enter Tryd.func7, Tryd.ntmps7
      go_wp2_with fail
      refine (HA.out _).mono ?_
      rintro e w1 ⟨rfl, hb⟩
      have HB1 := Lib.hid hb
      clear hb
      go_wp2_with fail
      refine (HM.out _).mono ?_
      rintro e _ ⟨rfl, rfl⟩
      go_wp2_with fail
      refine (HW.out _).mono ?_
      rintro e w2 ⟨rfl, hb⟩
      have HB2 := Lib.hid (HB1.out.trans (hb.mono HB1.out.size))
      clear hb
      go_wp2_with fail
      refine (HT.out _ (HG.out.p.below HB2.out)).mono ?_
      rintro e w3 ⟨rfl, hb⟩
      have HB3 := Lib.hid (HB2.out.trans (hb.mono HB2.out.size))
      clear hb
      go_wp2_with fail
      refine (HP.out _ (HG.out.below HB3.out)).mono ?_
      rintro e w4 ⟨rfl, hb⟩
      have HB4 := Lib.hid (HB3.out.trans (hb.mono HB3.out.size))
      clear hb
      go_wp2_with fail
      refine (HF.out _).mono ?_
      rintro e _ ⟨rfl, rfl⟩
      go_wp2_with fail
      refine (HW2.out _).mono ?_
      rintro e w5 ⟨rfl, hb⟩
      have HB5 := Lib.hid (HB4.out.trans (hb.mono HB4.out.size))
      clear hb
      go_wp2_with fail
      refine (HS.out _ (HG.out.below HB5.out)).mono ?_
      rintro e w6 ⟨rfl, hb⟩
      have HB6 := Lib.hid (HB5.out.trans (hb.mono HB5.out.size))
      clear hb
      go_wp2_with fail
      refine (HQ.out _).mono ?_
      rintro e w7 ⟨rfl, hb⟩
      have HB7 := Lib.hid (HB6.out.trans (hb.mono HB6.out.size))
      clear hb
      go_wp2_with fail
      refine (HY.out _).mono ?_
      rintro e w8 ⟨rfl, hb⟩
      have HB8 := Lib.hid (HB7.out.trans (hb.mono HB7.out.size))
      clear hb
      go_wp2_with fail
      refine (HM2.out _).mono ?_
      rintro e _ ⟨rfl, rfl⟩
      go_wp2_with fail
      refine (HF2.out _).mono ?_
      rintro e _ ⟨rfl, rfl⟩
      go_wp2_with fail
      refine (HT2.out _ (HG.out.p.below HB8.out)).mono ?_
      rintro e w9 ⟨rfl, hb⟩
      have HB9 := Lib.hid (HB8.out.trans (hb.mono HB8.out.size))
      clear hb
      go_wp2
      go_ret
      exact ⟨rfl, HB9.out⟩
    · have HS := Lib.hid hps
      clear hps hse HTS HPS
      go_enter Tryd.func7, Tryd.ntmps7
      go_wp2_with fail
      refine (HA.out _).mono ?_
      rintro e w1 ⟨rfl, hb⟩
      have HB1 := Lib.hid hb
      clear hb
      go_wp2_with fail
      refine (HM.out _).mono ?_
      rintro e _ ⟨rfl, rfl⟩
      go_wp2_with fail
      refine (HW.out _).mono ?_
      rintro e w2 ⟨rfl, hb⟩
      have HB2 := Lib.hid (HB1.out.trans (hb.mono HB1.out.size))
      clear hb
      go_wp2_with fail
      refine (HT.out _ (HG.out.p.below HB2.out)).mono ?_
      rintro e w3 ⟨rfl, hb⟩
      have HB3 := Lib.hid (HB2.out.trans (hb.mono HB2.out.size))
      clear hb
      go_wp2_with fail
      refine (HP.out _ (HG.out.below HB3.out)).mono ?_
      rintro e w4 ⟨rfl, hb⟩
      have HB4 := Lib.hid (HB3.out.trans (hb.mono HB3.out.size))
      clear hb
      go_wp2_with fail
      refine (HF.out _).mono ?_
      rintro e _ ⟨rfl, rfl⟩
      go_wp2_with fail
      refine (HW2.out _).mono ?_
      rintro e w5 ⟨rfl, hb⟩
      have HB5 := Lib.hid (HB4.out.trans (hb.mono HB4.out.size))
      clear hb
      go_wp2_with fail
      refine (HS.out _ (HG.out.below HB5.out)).mono ?_
      rintro e w6 ⟨rfl, hb⟩
      have HB6 := Lib.hid (HB5.out.trans (hb.mono HB5.out.size))
      clear hb
      go_wp2_with fail
      refine (HQ.out _).mono ?_
      rintro e w7 ⟨rfl, hb⟩
      have HB7 := Lib.hid (HB6.out.trans (hb.mono HB6.out.size))
      clear hb
      go_wp2_with fail
      refine (HY.out _).mono ?_
      rintro e w8 ⟨rfl, hb⟩
      have HB8 := Lib.hid (HB7.out.trans (hb.mono HB7.out.size))
      clear hb
      go_wp2_with fail
      refine (HM2.out _).mono ?_
      rintro e _ ⟨rfl, rfl⟩
      go_wp2_with fail
      refine (HF2.out _).mono ?_
      rintro e _ ⟨rfl, rfl⟩
      go_wp2
      go_ret
      exact ⟨rfl, HB8.out⟩
  · have hsi : (60 : Int) < (s.size : Int) := by omega
    clear hs
    go_enter Tryd.func7, Tryd.ntmps7
    go_wp2_with fail
    refine (HA.out _).mono ?_
    rintro e w1 ⟨rfl, hb⟩
    have HB1 := Lib.hid hb
    clear hb
    go_wp2
    go_ret
    exact ⟨rfl, HB1.out⟩
end Go.Proofs.YtodphfgopngpeaaDoor
