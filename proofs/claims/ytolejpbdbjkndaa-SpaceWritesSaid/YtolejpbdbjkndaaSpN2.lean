/-
  The chapter's space and its examples, walked. Condition: none.
-/
import Derived.Test.YtolejpbdbjkndaaSpE
namespace Go.Proofs.Ytolejpbdbjkndaa
section
open Go.RowKit
set_option linter.unusedVariables false

/-- Each page's frame is used, and of that page alone, as a Bool. -/
def usedB (F : Fs) (m : M) : Bool := (List.range 64).all fun p => match m p with
  | none => true
  | some x => decide (0 ≤ x.f) && decide (x.f.toNat < F.n) && !decide (F.r x.f.toNat = 0) && x.ok
def oneB (m : M) : Bool := (list m).all fun a => (list m).all fun b => !decide (a.2.f = b.2.f) || decide (a.1 = b.1)
theorem list_mem6 (m : M) : ∀ k p n x, p ≤ n → n < p + k → m n = some x → (n, x) ∈ listN m p k
  | 0, p, n, x, h1, h2, _ => by omega
  | k + 1, p, n, x, h1, h2, h3 => by
    rw [listN, List.mem_append]
    by_cases hn : n = p
    · subst hn
      rw [h3]
      exact .inl (List.mem_singleton.2 rfl)
    · exact .inr (list_mem6 m k (p + 1) n x (by omega) (by omega) h3)
theorem spOk_of {F : Fs} {m : M} (h1 : usedB F m = true) (h2 : oneB m = true) : SpOk F m := by
  refine ⟨fun p x hp hx => ?_, fun p p' x y hp hp' hx hy e => ?_⟩
  · unfold usedB at h1
    rw [List.all_eq_true] at h1
    have := h1 p (List.mem_range.2 hp)
    rw [hx] at this
    simp only [Bool.and_eq_true, decide_eq_true_eq, Bool.not_eq_true', decide_eq_false_iff_not] at this
    exact ⟨x.f.toNat, by omega, this.1.1.2, this.1.2⟩
  · unfold oneB at h2
    rw [List.all_eq_true] at h2
    have h3 := h2 (p, x) (list_mem6 m 64 0 p x (by omega) (by omega) hx)
    rw [List.all_eq_true] at h3
    have h4 := h3 (p', y) (list_mem6 m 64 0 p' y (by omega) (by omega) hy)
    simp only [Bool.or_eq_true, Bool.not_eq_true', decide_eq_false_iff_not, decide_eq_true_eq] at h4
    exact h4.resolve_left (fun h => h e)
theorem eOk_of {F : Fs} {m : M} (h1 : usedB F m = true) : ∀ p x, p < 64 → m p = some x → x.ok = true := fun p x hp hx => by
  unfold usedB at h1
  rw [List.all_eq_true] at h1
  have := h1 p (List.mem_range.2 hp)
  rw [hx] at this
  simp only [Bool.and_eq_true] at this
  exact this.2
theorem top_of {F : Fs} (hF : F.Ok) (h : (List.range F.n).all (fun i => decide (F.r i + 64 < 1000000)) = true) : ∀ i, F.r i + 64 < 1000000 := fun i => by
  by_cases hi : i < F.n
  · rw [List.all_eq_true] at h
    simpa using h i (List.mem_range.2 hi)
  · rw [hF.far i (by omega)]
    decide
/-- The chapter's space over three frames. -/
def S1 : Fs × M := mapGo (Fs.new 3) m0 0 true false 2
def S2 : Fs × M := writeGo S1.1 S1.2 64 1 [9] (pcJ 64 1)
def C2 : Fs × M × M := clG S2.1 S2.2 (list S2.2) (list S2.2).length
def S3 : Fs × M := writeGo C2.1 C2.2.2 64 1 [8] (pcJ 64 1)
set_option maxRecDepth 100000 in
theorem s1_ok : usedB S1.1 S1.2 = true ∧ oneB S1.2 = true := by decide +kernel
set_option maxRecDepth 100000 in
theorem s1_map : cntP m0 0 2 = 0 ∧ (2 : Int) ≤ freeN (Fs.new 3) ∧ cntP S1.2 1 1 ≠ 0 ∧ cntP S1.2 5 2 = 0 ∧ freeN S1.1 < 2 := by decide +kernel
set_option maxRecDepth 100000 in
theorem s1_set : look S1.2 (1 : Int) = some ⟨1, true, false, false, true⟩ ∧ ((needK S1.1 S1.2 64 1 : Nat) : Int) ≤ freeN S1.1 := by decide +kernel
set_option maxRecDepth 100000 in
theorem s2_ok : usedB S2.1 S2.2 = true ∧ oneB S2.2 = true ∧ (List.range S2.1.n).all (fun i => decide (S2.1.r i + 64 < 1000000)) = true := by decide +kernel
set_option maxRecDepth 100000 in
theorem c2_ok : usedB C2.1 C2.2.1 = true ∧ oneB C2.2.1 = true ∧ usedB C2.1 C2.2.2 = true ∧ oneB C2.2.2 = true := by decide +kernel
set_option maxRecDepth 100000 in
theorem c2_byte : byteP C2.1 C2.2.2 64 = some 9 := by decide +kernel
set_option maxRecDepth 100000 in
theorem c2_set : look C2.2.2 (1 : Int) = some ⟨1, true, false, true, true⟩ ∧ ((needK C2.1 C2.2.2 64 1 : Nat) : Int) ≤ freeN C2.1 := by decide +kernel
set_option maxRecDepth 100000 in
theorem s3_ok : usedB S3.1 C2.2.1 = true ∧ usedB S3.1 S3.2 = true ∧ oneB S3.2 = true := by decide +kernel
set_option maxRecDepth 100000 in
theorem s3_byte : byteP S3.1 C2.2.1 64 = some 9 := by decide +kernel
set_option maxRecDepth 100000 in
theorem s3_few : look C2.2.1 (0 : Int) = some ⟨0, true, false, true, true⟩ ∧ freeN S3.1 < ((needK S3.1 C2.2.1 0 1 : Nat) : Int) ∧ freeN S3.1 = 0 := by decide +kernel
end
end Go.Proofs.Ytolejpbdbjkndaa
namespace Go.Proofs.Ytolejpbdbjkndaa
section
open Go.RowKit Go.Shelf
set_option linter.unusedVariables false
set_option linter.unusedSimpArgs false
attribute [local go_sem] Oper.semAt_some

/-- Frames and a space, all new since w; nothing that lay has turned. -/
structure TS (w W : World) (fb lb cap : Nat) (F : Fs) (sb bt : Nat) (q : Nat → Option Nat) (m : M) : Prop where
  fs : FS W fb lb cap F sb bt q m
  lo : Below w.heap.size w W
  ge : w.heap.size ≤ fb ∧ w.heap.size ≤ lb ∧ w.heap.size ≤ sb ∧ ∀ k, Own bt q k → w.heap.size ≤ k
section
variable {w W W' : World} {fb lb cap : Nat} {F F' : Fs} {sb bt : Nat} {q : Nat → Option Nat} {m m' : M}
theorem TS.below (h : TS w W fb lb cap F sb bt q m) (hb : Below W.heap.size W W') : TS w W' fb lb cap F sb bt q m := ⟨h.fs.below hb, bl_step h.lo hb, h.ge⟩
theorem TS.fout (h : TS w W fb lb cap F sb bt q m) (ho : FOut W fb lb cap F' sb bt q m' W') : ∃ q', TS w W' fb lb cap F' sb bt q' m' := by
  obtain ⟨q', hs, hb, hq⟩ := ho
  obtain ⟨g1, g2, g3, g4⟩ := h.ge
  refine ⟨q', hs, h.lo.trans (hb.below (fun k hk => ?_) h.lo.size), g1, g2, g3, fun k hk => ?_⟩
  · rcases hk with rfl | hk
    · exact g2
    · exact g4 k hk
  · rcases hq k hk with h1 | h1
    · exact g4 k h1
    · have := h.lo.size; omega
theorem TS.wout (h : TS w W fb lb cap F sb bt q m) (ho : WOut W W' fb lb cap F' sb bt q m') : TS w W' fb lb cap F' sb bt q m' := by
  obtain ⟨g1, g2, g3, g4⟩ := h.ge
  refine ⟨ho.1, h.lo.trans (ho.2.below (fun k hk => ?_) h.lo.size), g1, g2, g3, g4⟩
  rcases hk with rfl | hk
  · exact g2
  · exact g4 k hk
end
set_option maxRecDepth 100000 in
set_option maxHeartbeats 2000000 in
theorem two_any {w : World} : Calls Try.prog 19 #[] w fun e W' => ∃ fb lb cap sb bt q, e = .returned (.tuple #[.pointer (some ⟨fb, 0, none⟩), .pointer (some ⟨sb, 0, none⟩)]) ∧ TS w W' fb lb cap S1.1 sb bt q S1.2 := by
  have HN := Lib.hid (frNew_any (w := w) 3 (by decide))
  obtain ⟨f1, f2, _⟩ := s1_map
  have HF1 := Lib.hid f1
  have HF2 := Lib.hid f2
  clear f1 f2
  go_enter Try.func19, Try.ntmps19
  go_wp2_with (fail)
  refine HN.out.mono ?_
  rintro e W1 ⟨rfl, hf, hb1⟩
  have HFR := Lib.hid hf
  have HB1 := Lib.hid hb1
  clear hf hb1
  go_wp2_with (fail)
  refine (spNew_any (w := W1) (w.heap.size + 1)).mono ?_
  rintro e W2 ⟨rfl, hs, hb2⟩
  have hz1 := HB1.out.size
  have hlt := HFR.out.lt
  have hT : TS w W2 (w.heap.size + 1) w.heap.size 3 (Fs.new 3) (W1.heap.size + 1) W1.heap.size q0 m0 := by
    have hown : ∀ k, Own W1.heap.size q0 k → k = W1.heap.size := fun k hk => by
      rcases hk with h | ⟨_, _, h⟩
      · exact h
      · cases h
    refine ⟨⟨HFR.out.below hb2, hs, fun e => ?_, fun e => ?_, by omega, by omega⟩, bl_step HB1.out hb2, by omega, Nat.le_refl _, by omega, fun k hk => by rw [hown k hk]; exact hz1⟩
    · have := hown _ e; omega
    · have := hown _ e; omega
  have HT := Lib.hid hT
  have HM := Lib.hid (spMap_yes hT.fs 0 2 true false (by decide) (by decide) HF1.out HF2.out)
  clear hs hb2 hz1 hlt hT
  go_wp2_with (fail)
  refine HM.out.mono ?_
  rintro e W3 ⟨rfl, ho⟩
  obtain ⟨q', hT3⟩ := HT.out.fout ho
  have HT3 := Lib.hid hT3
  clear hT3 ho
  go_wp2
  go_ret2
  exact ⟨_, _, _, _, _, _, rfl, HT3.out⟩
section
variable {w : World} {fb lb cap : Nat} {F : Fs} {sb bt : Nat} {q : Nat → Option Nat} {m : M}
set_option maxRecDepth 100000 in
set_option maxHeartbeats 1000000 in
theorem spSetByte_few (h : FS w fb lb cap F sb bt q m) (hok : SpOk F m) (a : Nat) (v : Int) (ha : a < 4294967296) (hO : okK m a true (pcJ a 1)) (hf : freeN F < (needK F m a (pcJ a 1) : Nat)) :
    Calls Try.prog 26 #[.pointer (some ⟨sb, 0, none⟩), .int .u32 a, .int .u8 v] w fun e w' => e = .returned (.bool false) ∧ Below w.heap.size w w' := by
  have hbl := bl_new (Below.refl w.heap.size w) (.cells #[.int .u8 v] 5)
  have HW := Lib.hid (spWrite_few (h.below hbl) hok a 1 (some ⟨w.heap.size, 0, none⟩) 1 ha (by omega) hO hf)
  have HB := Lib.hid hbl
  clear h hok hO hbl hf
  go_enter Try.func26, Try.ntmps26
  go_wp2_with (fail)
  refine HW.out.mono ?_
  rintro e W1 ⟨rfl, hb1⟩
  have HB1 := Lib.hid (bl_step HB.out hb1)
  clear hb1
  go_wp2
  go_ret
  exact ⟨rfl, HB1.out⟩
theorem ok1 {m : M} {a : Nat} {i : Int} {x : E} (hi : ((a / 64 : Nat) : Int) = i) (h : look m i = some x) (hw : x.w = true) (wr : Bool) : okK m a wr (pcJ a 1) := (okK_one m a wr).2 ⟨x, by rw [hi]; exact h, fun _ => hw⟩
end
set_option maxRecDepth 100000 in
set_option maxHeartbeats 4000000 in
theorem alive_any {w : World} : Calls Try.prog 7 #[] w fun e W' => e = .returned (.bool true) ∧ Below w.heap.size w W' := by
  have H2 := Lib.hid (two_any (w := w))
  have HM := Lib.hid s1_map
  have HO1 := Lib.hid (spOk_of s1_ok.1 s1_ok.2)
  have HSET := Lib.hid s1_set
  have HO2 := Lib.hid (spOk_of s2_ok.1 s2_ok.2.1)
  have HE2 := Lib.hid (eOk_of s2_ok.1)
  have HOA := Lib.hid (spOk_of c2_ok.1 c2_ok.2.1)
  have HOB := Lib.hid (spOk_of c2_ok.2.2.1 c2_ok.2.2.2)
  have HCB := Lib.hid c2_byte
  have HCS := Lib.hid c2_set
  have HO3 := Lib.hid (spOk_of s3_ok.1 c2_ok.2.1)
  have HSB := Lib.hid s3_byte
  have HSF := Lib.hid s3_few
  go_enter Try.func7, Try.ntmps7
  go_wp2_with (fail)
  refine H2.out.mono ?_
  rintro e W1 ⟨fb, lb, cap, sb, bt, q, rfl, hT⟩
  have HT1 := Lib.hid hT
  clear hT
  go_wp2_with (fail)
  refine (spMap_some HT1.out.fs 1 1 true false (by decide) (by decide) HM.out.2.2.1).mono ?_
  rintro e W2 ⟨rfl, hb⟩
  have HT2 := Lib.hid (HT1.out.below hb)
  clear hb
  go_wp2_with (fail)
  refine (spMap_few HT2.out.fs 5 2 true false (by decide) (by decide) HM.out.2.2.2.1 HM.out.2.2.2.2).mono ?_
  rintro e W3 ⟨rfl, hb⟩
  have HT3 := Lib.hid (HT2.out.below hb)
  clear hb
  go_wp2_with (fail)
  refine (spSetByte_yes HT3.out.fs HO1.out 64 9 (by decide) (by decide) (ok1 (i := 1) rfl HSET.out.1 rfl true) (by rw [pcJ_one]; exact HSET.out.2)).mono ?_
  rintro e W4 ⟨rfl, ho⟩
  have HT4 := Lib.hid (show TS w W4 fb lb cap S2.1 sb bt q S2.2 from HT3.out.wout ho)
  clear ho
  go_wp2_with (fail)
  refine (spClone_any HT4.out.fs HE2.out (top_of HT4.out.fs.f.ok s2_ok.2.2)).mono ?_
  rintro e W5 ⟨so, bo, gr, rows, rfl, hci⟩
  have hci : CI W4 fb lb cap sb bt q so bo gr rows C2 W5 := hci
  obtain ⟨qo, ho1, ho2⟩ := hci.out
  obtain ⟨g1, g2, g3, g4⟩ := HT4.out.ge
  have hlf := HT4.out.fs.f.lt
  have hls := HT4.out.fs.s.p.lt
  have hlo := HT4.out.lo.size
  have how : ∀ k, Own bt q k → k < W4.heap.size := fun k hk => HT4.out.fs.s.t.own_lt hk
  have hso := hci.so_
  have HT5 := Lib.hid (show TS w W5 fb lb cap C2.1 sb bt q C2.2.1 from ⟨hci.fs, HT4.out.lo.trans (hci.bu.below (fun k hk => by rcases hk with rfl | hk; exact g2; exact g4 k hk) hlo), HT4.out.ge⟩)
  have HC5 := Lib.hid (show TS w W5 fb lb cap C2.1 so bo qo C2.2.2 from
    ⟨⟨hci.fs.f, ho1, fun e => by have := ho2 _ e; omega, fun e => by have := ho2 _ e; omega, by omega, by omega⟩, HT5.out.lo, g1, g2, by omega, fun k hk => by have := ho2 k hk; omega⟩)
  have HDJ := Lib.hid (show ∀ k, Own bt q k ∨ k = sb → ¬ WS lb bo qo k from fun k hk e => by
    have hk4 : k < W4.heap.size := by
      rcases hk with hk | rfl
      · exact how k hk
      · exact hls
    rcases e with rfl | e
    · rcases hk with hk | hk
      · exact HT4.out.fs.d2 hk
      · exact HT4.out.fs.d3 hk.symm
    · have := ho2 _ e; omega)
  clear ho1 ho2 g1 g2 g3 g4 hlf hls hlo how hso hci
  go_wp2_with (fail)
  refine (spByte_any HC5.out.fs HOB.out 64 (by decide)).mono ?_
  rintro e W6 ⟨rfl, hb⟩
  rw [HCB.out]
  have HT6 := Lib.hid (HT5.out.below hb)
  have HC6 := Lib.hid (HC5.out.below hb)
  clear hb
  simp only [Option.getD_some, Option.isSome_some]
  go_wp2_with (fail)
  refine (spSetByte_yes HC6.out.fs HOB.out 64 8 (by decide) (by decide) (ok1 (i := 1) rfl HCS.out.1 rfl true) (by rw [pcJ_one]; exact HCS.out.2)).mono ?_
  rintro e W7 ⟨rfl, ho⟩
  have HC7 := Lib.hid (show TS w W7 fb lb cap S3.1 so bo qo S3.2 from HC6.out.wout ho)
  have HT7 := Lib.hid (show TS w W7 fb lb cap S3.1 sb bt q C2.2.1 from ⟨⟨HC7.out.fs.f, ⟨HT6.out.fs.s.p.but ho.2 (HDJ.out _ (.inr rfl)), HT6.out.fs.s.t.but ho.2 (fun k hk => HDJ.out k (.inl hk)), HT6.out.fs.s.ne⟩, HT6.out.fs.d1, HT6.out.fs.d2, HT6.out.fs.d3, HT6.out.fs.d4⟩, HC7.out.lo, HT6.out.ge⟩)
  clear ho
  go_wp2_with (fail)
  refine (spByte_any HT7.out.fs HO3.out 64 (by decide)).mono ?_
  rintro e W8 ⟨rfl, hb⟩
  rw [HSB.out]
  have HT8 := Lib.hid (HT7.out.below hb)
  clear hb
  simp only [Option.getD_some, Option.isSome_some]
  go_wp2_with (fail)
  refine (spSetByte_few HT8.out.fs HO3.out 0 1 (by decide) (ok1 (i := 0) rfl HSF.out.1 rfl true) (by rw [pcJ_one]; exact HSF.out.2.1)).mono ?_
  rintro e W9 ⟨rfl, hb⟩
  have HT9 := Lib.hid (HT8.out.below hb)
  clear hb
  go_wp2_with (fail)
  refine (frFree_any HT9.out.fs.f).mono ?_
  rintro e W10 ⟨rfl, hb⟩
  rw [HSF.out.2.2]
  have HT10 := Lib.hid (HT9.out.below hb)
  clear hb
  go_wp2
  go_ret
  exact ⟨rfl, HT10.out.lo⟩
end
end Go.Proofs.Ytolejpbdbjkndaa
