/-
  Map of spaces, where it may be, walked. Condition: the space and the frames lie in blocks of their own.
-/
import Derived.Test.YtlecfdchmcghlaaSp3
namespace Go.Proofs.Ytlecfdchmcghlaa
open Go.RowKit Go.Shelf
set_option linter.unusedVariables false
set_option linter.unusedSimpArgs false
attribute [local go_sem] Oper.semAt_some

section
variable {w : World} {fb lb cap : Nat} {F : Fs} {sb bt : Nat} {q : Nat → Option Nat} {m : M}
set_option maxRecDepth 100000 in
set_option maxHeartbeats 4000000 in
theorem spMap_yes (h : FS w fb lb cap F sb bt q m) (p n : Nat) (mw sh : Bool) (h1 : 1 ≤ n) (h2 : p + n ≤ 64) (hc : cntP m p n = 0) (hf : (n : Int) ≤ freeN F) :
    Calls Try.prog 12 #[.pointer (some ⟨sb, 0, none⟩), .int .i64 (p : Int), .int .i64 (n : Int), .bool mw, .bool sh] w fun e w' => e = .returned (.int .i64 0) ∧ FOut w fb lb cap (mapGo F m p mw sh n).1 sb bt q (mapGo F m p mw sh n).2 w' := by
  have HH := Lib.hid h
  have HN := Lib.hid (spNone_any h.s)
  have HC := Lib.hid (spCount_yes h.s p n h1 h2)
  rw [hc] at HC
  have HLT := Lib.hid (show fb < w.heap.size ∧ lb < w.heap.size ∧ sb < w.heap.size from ⟨h.f.lt.1, h.f.lt.2, h.s.p.lt⟩)
  have hnf : ¬ freeN F < (n : Int) := by omega
  have hn64 : (n : Int) ≤ 64 := by omega
  clear h hc
  go_enter Try.func12, Try.ntmps12
  go_wp2_with (fail)
  refine HN.out.mono ?_
  rintro e _ ⟨rfl, rfl⟩
  go_wp2_with (fail)
  refine HC.out.mono ?_
  rintro e W1 ⟨rfl, hb1⟩
  have HS1 := Lib.hid (HH.out.below hb1)
  have HB1 := Lib.hid hb1
  clear hb1
  obtain ⟨c0, c1, hlt⟩ := HS1.out.s.cells
  go_wp2_with (fail)
  refine (frFree_any HS1.out.f).mono ?_
  rintro e W2 ⟨rfl, hb2⟩
  have HS2 := Lib.hid (HS1.out.below hb2)
  have HB2 := Lib.hid (bl_step HB1.out hb2)
  clear hb2 c0 c1 hlt
  have HO2 := Lib.hid (show FOut w fb lb cap F sb bt q m W2 from ⟨q, HS2.out, But.of_below HB2.out, fun k hk => .inl hk⟩)
  clear HS1 HB1 HS2 HB2
  go_wp2_with (fail)
  go_loopw [41] (fun i wx => ∃ k : Nat, i = .int .i64 (k : Int) ∧ k ≤ n ∧ Hid (FOut w fb lb cap (mapGo F m p mw sh k).1 sb bt q (mapGo F m p mw sh k).2 wx)) (fun i _ => n - (intOf i).toNat)
  case atStart => exact ⟨0, rfl, Nat.zero_le _, HO2⟩
  case round =>
    obtain ⟨k, rfl, hk, HO⟩ := hrel
    by_cases hkn : k < n
    · have hki : (k : Int) < (n : Int) := by omega
      have hfr := mapGo_free F m p mw sh k (by omega)
      obtain ⟨j, hj⟩ := freeK_of (F := (mapGo F m p mw sh k).1) (by omega)
      have HSU := Lib.hid (mapGo_succ hj)
      obtain ⟨q', hs, hb, hq⟩ := HO.out
      have HT := Lib.hid (frTake_any hs.f)
      have ht : takeF (mapGo F m p mw sh k).1 = (mapGo F m p mw sh k).1.setR j 1 := by unfold takeF; rw [hj]
      have ht2 : takeN (mapGo F m p mw sh k).1 = j := by unfold takeN; rw [hj]
      have ht3 : takeE (mapGo F m p mw sh k).1 = 0 := by unfold takeE; rw [hj]; rfl
      rw [ht, ht2, ht3] at HT
      have hjn := (freeK_some hj).1
      have hpos := hs.f.ok.pos
      have hj256 : j < 256 := by omega
      obtain ⟨c0, c1, hlt⟩ := hs.s.cells
      clear ht ht2 ht3 hj hfr hs hb hq hjn hpos HO2
      go_wp2_with (fail)
      refine HT.out.mono ?_
      rintro e W3 ⟨rfl, ho⟩
      obtain ⟨q3, hs3, hb3, hq3⟩ := HO.out.frames ho
      have HS3 := Lib.hid hs3
      have HB3 := Lib.hid hb3
      have HQ3 := Lib.hid hq3
      clear hs3 hb3 hq3 ho c0 c1 hlt
      obtain ⟨c0, c1, hlt⟩ := HS3.out.s.cells
      have hset := set_any HS3.out.s.t ⟨j, mw, sh, false, true⟩ ((p + k : Nat) : Int)
      have hmay : may ((p + k : Nat) : Int) ⟨j, mw, sh, false, true⟩ = true := by
        unfold may E.ok
        simp
        omega
      unfold setM at hset
      rw [hmay, if_pos rfl, if_pos rfl, Int.toNat_natCast, show ((p + k : Nat) : Int) = (p : Int) + (k : Int) by omega] at hset
      simp only [E.val, E.arr] at hset
      have HSET := Lib.hid hset
      clear hset hmay
      go_wp2_with (fail)
      refine HSET.out.mono ?_
      rintro e W4 ⟨rfl, hmut⟩
      have HO4 := Lib.hid (FOut.table HS3.out HB3.out HQ3.out hmut HLT.out)
      clear hmut
      go_wp2_with (fail)
      exact ⟨⟨k + 1, by simp, by omega, Lib.hid (by rw [HSU.out]; exact HO4.out)⟩, by simp [intOf]; omega⟩
    · have hki : ¬ (k : Int) < (n : Int) := by omega
      have hkk : k = n := by omega
      subst hkk
      go_wp2
      go_ret
      exact ⟨rfl, HO.out⟩
end
end Go.Proofs.Ytlecfdchmcghlaa
