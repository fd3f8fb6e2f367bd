/-
  gauss.Text at any complex number, strconv.ParseInt and strconv.FormatInt in plain words. Condition: the library's errors are errors, the table of powers of ten lies as the library's text lays it.
-/
import Derived.Lib.ParseIntBTie
import Derived.Test.YtodphfgopngpeaaDoorGp2
import Derived.Test.YtodphfgopngpeaaDoorStr1
import Derived.Test.YtodphfgopngpeaaDoorGau9
import Derived.Test.YtodphfgopngpeaaDoorRing1
namespace Go.Proofs.YtodphfgopngpeaaDoor
open Go.RowKit
set_option linter.unusedVariables false
set_option linter.unusedSimpArgs false
attribute [local irreducible] floatOfInt wz

structure Errs (w : World) : Prop where
  one : ∃ t u v, Blk w 2 t #[.iface u v]
  two : ∃ t u v, Blk w 3 t #[.iface u v]
theorem Errs.lt {w : World} (h : Errs w) : 2 < w.heap.size ∧ 3 < w.heap.size := by
  obtain ⟨⟨_, _, _, h1⟩, ⟨_, _, _, h2⟩⟩ := h
  exact ⟨h1.lt, h2.lt⟩
theorem Errs.below {w w' : World} (h : Errs w) (hb : Below w.heap.size w w') : Errs w' := by
  obtain ⟨h1, h2⟩ := h.lt
  obtain ⟨⟨t, u, v, k1⟩, ⟨t', u', v', k2⟩⟩ := h
  exact ⟨⟨t, u, v, k1.below hb h1⟩, ⟨t', u', v', k2.below hb h2⟩⟩
/-- What the library's tables and errors hold. -/
structure GGr (w : World) : Prop where
  u : U8 w
  e : Errs w
  p : Pow w
theorem GGr.below {w w' : World} (h : GGr w) (hb : Below w.heap.size w w') : GGr w' := ⟨h.u.below hb, h.e.below hb, h.p.below hb⟩
theorem GGr.belowW {w0 w w' : World} (h : GGr w0) (hb : Below w0.heap.size w0 w) : GGr w := h.below hb

/-- What strconv.ParseInt tells: a number and no error, if the text is one; else some number and some error. -/
def IntAns (l : List UInt8) (w : World) (e : Ending) (w' : World) : Prop := ∃ (v : Int) (er : Value), e = .returned (.tuple #[.int .i64 v, er]) ∧ ((er = .nilIface ∧ Lib.atoiAll l = .ok v) ∨ ((∃ t x, er = .iface t x) ∧ ∀ n, Lib.atoiAll l ≠ .ok n)) ∧ Below w.heap.size w w'
theorem int64_any {w : World} (hE : Errs w) (s : ByteArray) (hlim : s.size ≤ 281474976710656) :
    Calls Tryd.prog 30 #[.string s, .int .i64 10, .int .i64 64] w (IntAns s.data.toList w) := by
  obtain ⟨⟨t1, u1, v1, k1⟩, ⟨t2, u2, v2, k2⟩⟩ := hE
  have c1 : w.cell? ⟨2, 0, none⟩ = some (.iface u1 v1) := (k1.cell 0).trans rfl
  have c2 : w.cell? ⟨3, 0, none⟩ = some (.iface u2 v2) := (k2.cell 0).trans rfl
  have ht := Lib.parseIntB_64 s.data.toList
  cases h : Lib.parseIntB 64 s.data.toList
  case ok v =>
    refine (Tryd.strconv_ParseInt_10_at64_ok s (by omega) v h w).mono fun e w' ⟨he, hw⟩ => ⟨v, .nilIface, he, .inl ⟨rfl, by rw [← ht, h]⟩, ?_⟩
    rcases hw with rfl | ⟨t, rfl⟩
    · exact Below.refl _ _
    · exact Lib.bytesWorld_below _ _ _
  case range =>
    refine (Any.strconv_ParseInt_10_at64_range Tryd.laysC174 s hlim h _ w c2 (.inr ⟨_, _, rfl⟩)).mono ?_
    rintro e w' ⟨N, he, _, _, hb⟩
    exact ⟨_, _, he, .inr ⟨⟨_, _, rfl⟩, fun n hn => by rw [← ht, h] at hn; cases hn⟩, hb⟩
  all_goals
    refine (Any.strconv_ParseInt_10_at64_syntax Tryd.laysC174 s hlim h _ w c1 (.inr ⟨_, _, rfl⟩)).mono ?_
    rintro e w' ⟨N, he, _, _, hb⟩
    exact ⟨_, _, he, .inr ⟨⟨_, _, rfl⟩, fun n hn => by rw [← ht, h] at hn; cases hn⟩, hb⟩
theorem form_any {w : World} (hP : Pow w) (n : Int) (h0 : -9223372036854775808 ≤ n) (h1 : n ≤ 9223372036854775807) :
    Calls Tryd.prog 33 #[.int .i64 n, .int .i64 10] w fun e w' => e = .returned (.string ⟨(Lib.itoa n).toArray⟩) ∧ Below w.heap.size w w' :=
  (Tryd.strconv_FormatInt_10 n h0 h1 w hP.tab).mono fun e w' ⟨he, k, os, hw⟩ => ⟨he, hw ▸ below_growN w k os⟩

/-- The text of any complex number. -/
noncomputable def txtG (a b : Nat) : List UInt8 := if isP a b then textG (re a b) (im a b) else []
theorem join3 (l r : List UInt8) : (⟨l.toArray⟩ ++ ⟨r.toArray⟩ : ByteArray) = ⟨(l ++ r).toArray⟩ := by
  apply ByteArray.ext
  rw [ByteArray.data_append]
  simp
theorem ret_str {a b : ByteArray} (h : a = b) : Ending.returned (.string a) = .returned (.string b) := by rw [h]
theorem size_of (l : List UInt8) : (⟨l.toArray⟩ : ByteArray).size = l.length := by
  show l.toArray.size = l.length
  simp
set_option maxRecDepth 100000 in
set_option maxHeartbeats 4000000 in
theorem gText_any {w : World} (hP : Pow w) (a b : Nat) : Calls Tryd.prog 21 #[.complex .f64 a b] w fun e w' => e = .returned (.string ⟨(txtG a b).toArray⟩) ∧ Below w.heap.size w w' := by
  have HM := Lib.hid (fun W => may_any (w := W) a b)
  have HQ := Lib.hid (fun W => gParts_any (w := W) a b)
  have hr := re_range a b
  unfold txtG
  cases h : isP a b with
  | false =>
    rw [h] at HM
    clear h hr
    rw [if_neg (by decide)]
    go_enter Tryd.func21, Tryd.ntmps21
    go_wp2_with fail
    refine (HM.out _).mono ?_
    rintro e w1 ⟨rfl, hb1⟩
    go_wp2
    go_ret
    exact ⟨rfl, hb1⟩
  | true =>
    rw [h] at HM
    rw [if_pos rfl]
    clear h
    generalize re a b = p at *
    generalize im a b = q at *
    have H1 := Lib.hid (fun W (hW : Pow W) => form_any hW p (by omega) (by omega))
    have H2 := Lib.hid (fun W (hW : Pow W) => form_any hW q (by omega) (by omega))
    have hl1 := Lib.itoa_length_le p (by omega) (by omega)
    have hl2 := Lib.itoa_length_le q (by omega) (by omega)
    obtain ⟨S1, hS1⟩ : ∃ S1 : ByteArray, ⟨(Lib.itoa p).toArray⟩ = S1 := ⟨_, rfl⟩
    obtain ⟨S2, hS2⟩ : ∃ S2 : ByteArray, ⟨(Lib.itoa q).toArray⟩ = S2 := ⟨_, rfl⟩
    rw [hS1] at H1
    rw [hS2] at H2
    have z1 : S1.size ≤ 21 := by rw [← hS1, size_of]; exact hl1
    have z2 : S2.size ≤ 21 := by rw [← hS2, size_of]; exact hl2
    have HE1 := Lib.hid (show ¬ q < 0 → (((S1 ++ ⟨#[43]⟩) ++ S2) ++ ⟨#[105]⟩ : ByteArray) = ⟨(textG p q).toArray⟩ from fun hq => by
      rw [← hS1, ← hS2]
      unfold textG signG
      rw [if_neg hq, ← join3, ← join3, ← join3])
    have HE2 := Lib.hid (show q < 0 → (((S1 ++ ⟨#[]⟩) ++ S2) ++ ⟨#[105]⟩ : ByteArray) = ⟨(textG p q).toArray⟩ from fun hq => by
      rw [← hS1, ← hS2]
      unfold textG signG
      rw [if_pos hq, ← join3, ← join3, ← join3])
    have HPP := Lib.hid hP
    clear hS1 hS2 hl1 hl2 hP hr
    by_cases hq : q < 0
    all_goals
      go_enter Tryd.func21, Tryd.ntmps21
      go_wp2_with fail
      refine (HM.out _).mono ?_
      rintro e w1 ⟨rfl, hb1⟩
      go_wp2_with fail
      refine (HQ.out _).mono ?_
      rintro e w2 ⟨rfl, hb2⟩
      have HB := Lib.hid (hb1.trans (hb2.mono hb1.size))
      clear hb1 hb2
      go_wp2_with fail
      refine (H1.out _ (HPP.out.below HB.out)).mono ?_
      rintro e w3 ⟨rfl, hb3⟩
      have HB3 := Lib.hid (HB.out.trans (hb3.mono HB.out.size))
      clear hb3
      go_wp2_with fail
      refine (H2.out _ (HPP.out.below HB3.out)).mono ?_
      rintro e w4 ⟨rfl, hb4⟩
      have HB4 := Lib.hid (HB3.out.trans (hb4.mono HB3.out.size))
      clear hb4
    · have HQ0 := Lib.hid hq
      go_wp2
      go_ret
      exact ⟨ret_str (HE2.out HQ0.out), HB4.out⟩
    · have HQ0 := Lib.hid hq
      go_wp2
      go_ret
      exact ⟨ret_str (HE1.out (by have := HQ0.out; omega)), HB4.out⟩
theorem txt_mk (p q : Int) : txtG (floatOfInt .f64 (wz p)) (floatOfInt .f64 (wz q)) = textG (wz p) (wz q) := by
  unfold txtG
  rw [made_isP, if_pos rfl, made_re, made_im]
theorem textMk {w : World} (hP : Pow w) (p q : Int) : Calls Tryd.prog 21 #[mk p q] w fun e w' => e = .returned (.string ⟨(textG (wz p) (wz q)).toArray⟩) ∧ Below w.heap.size w w' := by
  have h := gText_any hP (floatOfInt .f64 (wz p)) (floatOfInt .f64 (wz q))
  rw [txt_mk] at h
  exact h
theorem seq_true {a b : ByteArray} (h : a = b) : (a.toList == b.toList) = true := by rw [h]; exact beq_self_eq_true _
theorem seq_false {a b : ByteArray} (h : a ≠ b) : (a.toList == b.toList) = false := by
  rw [beq_eq_false_iff_ne]
  intro he
  rw [Lib.toList_data, Lib.toList_data] at he
  exact h (ByteArray.ext (Array.toList_inj.1 he))
/-- In the range of parts. -/
def InR (p : Int) : Prop := -524288 ≤ p ∧ p ≤ 524287
theorem InR.wz {p : Int} (h : InR p) : wz p = p := wz_small h.1 h.2

set_option maxRecDepth 100000 in
set_option maxHeartbeats 4000000 in
/-- gauss.Parse at a number's text. -/
theorem parse_yes {w : World} (hG : GGr w) {p q : Int} (hp : InR p) (hq : InR q) (s : ByteArray) (hs : s = ⟨(textG p q).toArray⟩) : Calls Tryd.prog 17 #[.string s] w fun e w' => e = .returned (.tuple #[mk p q, .int .i64 0]) ∧ Below w.heap.size w w' := by
  have hl : s.data.toList = textG p q := by rw [hs]
  have hz : s.size = (textG p q).length := by rw [hs, size_of]
  have htl := text_len p q
  have h1 := Lib.itoa_length_le p (by have := hp.1; omega) (by have := hp.2; omega)
  have h2 := itoa_pos p
  have h3 : (Lib.decDigits q.natAbs).length ≤ 20 := dec_len (by have := hq.1; have := hq.2; omega)
  obtain ⟨n, hn⟩ : ∃ n, (Lib.itoa p).length = n := ⟨_, rfl⟩
  have hsz : s.size ≤ 1000000 := by omega
  have HL := Lib.hid (fun W (hW : U8 W) => show Calls Tryd.prog 28 #[.string s, .string ⟨#[43, 45]⟩] W fun e w' => e = .returned (.int .i64 (n : Int)) ∧ Below W.heap.size W w' from
    (lia_any hW s hsz).mono fun e w' ⟨i, he, _, _, ha, hb⟩ => ⟨by
      have := lastP_one (ha (by rw [hl]; exact fun b hb => text_asc hb)) (by rw [hl]; exact last_text p q)
      rw [he, this, hn], hb⟩)
  have hsf : Lib.hasSuffix s.data.toList (⟨#[105]⟩ : ByteArray).data.toList = true := by
    rw [hl]
    unfold textG Lib.hasSuffix
    first | (rw [List.isSuffixOf_iff_suffix]; exact ⟨_, rfl⟩) | (rw [decide_eq_true_iff]; exact ⟨_, rfl⟩) | simp
  have HF := Lib.hid (show ∀ W, Calls Tryd.prog 29 #[.string s, .string ⟨#[105]⟩] W fun e w' => e = .returned (.bool true) ∧ w' = W from fun W => by
    have h := Tryd.strings_HasSuffix s ⟨#[105]⟩ W (by omega)
    rw [hsf] at h
    exact h)
  have he1 : (s.extract 0 n).data.toList = Lib.itoa p := by
    rw [ByteArray.data_extract, Array.toList_extract, hl, ← hn]
    exact text_head p q
  have he2 : (s.extract n (s.size - 1)).data.toList = signG q ++ Lib.itoa q := by
    rw [ByteArray.data_extract, Array.toList_extract, hl, hz, ← hn]
    exact text_mid p q
  have HI1 := Lib.hid (show ∀ W, Errs W → Calls Tryd.prog 30 #[.string (s.extract 0 n), .int .i64 10, .int .i64 64] W fun e w' => e = .returned (.tuple #[.int .i64 p, .nilIface]) ∧ Below W.heap.size W w' from fun W hW => by
    refine (int64_any hW (s.extract 0 n) (by
      have : (s.extract 0 n).size = (s.extract 0 n).data.toList.length := by rw [Array.length_toList]; rfl
      rw [this, he1]; omega)).mono ?_
    rw [he1]
    rintro e w' ⟨v, er, he, ⟨rfl, ha⟩ | ⟨_, ha⟩, hb⟩
    · rw [atoi_itoa (by have := hp.1; omega) (by have := hp.2; omega)] at ha
      injection ha with ha
      rw [he, ha]
      exact ⟨rfl, hb⟩
    · exact absurd (atoi_itoa (by have := hp.1; omega) (by have := hp.2; omega)) (ha p))
  have HI2 := Lib.hid (show ∀ W, Errs W → Calls Tryd.prog 30 #[.string (s.extract n (s.size - 1)), .int .i64 10, .int .i64 64] W fun e w' => e = .returned (.tuple #[.int .i64 q, .nilIface]) ∧ Below W.heap.size W w' from fun W hW => by
    refine (int64_any hW (s.extract n (s.size - 1)) (by
      have : (s.extract n (s.size - 1)).size = (s.extract n (s.size - 1)).data.toList.length := by rw [Array.length_toList]; rfl
      rw [this, he2, List.length_append]
      have hh := tail_eq q
      obtain ⟨s0, _, _, h4⟩ := hh
      have h5 := congrArg List.length h4
      rw [List.length_append, List.length_cons] at h5
      omega)).mono ?_
    rw [he2]
    rintro e w' ⟨v, er, he, ⟨rfl, ha⟩ | ⟨_, ha⟩, hb⟩
    · rw [atoi_mid (by have := hq.1; omega) (by have := hq.2; omega)] at ha
      injection ha with ha
      rw [he, ha]
      exact ⟨rfl, hb⟩
    · exact absurd (atoi_mid (by have := hq.1; omega) (by have := hq.2; omega)) (ha q))
  have HM := Lib.hid (fun W => gMake_any (w := W) p q)
  have HT := Lib.hid (show ∀ W, Pow W → Calls Tryd.prog 21 #[mk p q] W fun e w' => e = .returned (.string s) ∧ Below W.heap.size W w' from fun W hW => by
    have h := textMk hW p q
    rw [hp.wz, hq.wz, ← hs] at h
    exact h)
  have HG := Lib.hid hG
  have hn1 : 1 ≤ n := by omega
  have hn2 : n + 1 ≤ s.size := by omega
  have hn1i : (1 : Int) ≤ (n : Int) := by omega
  have hn2i : (n : Int) ≤ (s.size : Int) - 1 := by omega
  have hszi : (s.size : Int) ≤ 1000000 := by omega
  have hlt : ¬ (n : Int) < 1 := by omega
  have hst := seq_true (rfl : s = s)
  clear he1 he2 hsf hl hz htl h1 h2 h3 hn hsz hs hG hp hq
  generalize mk p q = v at *
  go_enter Tryd.func17, Tryd.ntmps17
  go_wp2_with fail
  refine (HL.out _ HG.out.u).mono ?_
  rintro e w1 ⟨rfl, hb1⟩
  have HB1 := Lib.hid hb1
  clear hb1
  go_wp2_with fail
  refine (HF.out _).mono ?_
  rintro e _ ⟨rfl, rfl⟩
  go_wp2_with fail
  refine (HI1.out _ (HG.out.e.below HB1.out)).mono ?_
  rintro e w2 ⟨rfl, hb2⟩
  have HB2 := Lib.hid (HB1.out.trans (hb2.mono HB1.out.size))
  clear hb2
  go_wp2_with fail
  refine (HI2.out _ (HG.out.e.below HB2.out)).mono ?_
  rintro e w3 ⟨rfl, hb3⟩
  have HB3 := Lib.hid (HB2.out.trans (hb3.mono HB2.out.size))
  clear hb3
  go_wp2_with fail
  refine (HM.out _).mono ?_
  rintro e _ ⟨rfl, rfl⟩
  go_wp2_with fail
  refine (HT.out _ (HG.out.p.below HB3.out)).mono ?_
  rintro e w4 ⟨rfl, hb4⟩
  have HB4 := Lib.hid (HB3.out.trans (hb4.mono HB3.out.size))
  clear hb4
  go_wp2
  go_ret2
  exact ⟨rfl, HB4.out⟩
set_option maxRecDepth 100000 in
set_option maxHeartbeats 4000000 in
/-- gauss.Parse at a text that is no number's. -/
theorem parse_no {w : World} (hG : GGr w) (s : ByteArray) (hs : s.size ≤ 1000000) (h : ∀ p q, InR p → InR q → s.data.toList ≠ textG p q) : Calls Tryd.prog 17 #[.string s] w fun e w' => e = .returned (.tuple #[.complex .f64 0 0, .int .i64 20]) ∧ Below w.heap.size w w' := by
  have HL := Lib.hid (fun W (hW : U8 W) => lia_any hW s hs)
  have HF := Lib.hid (fun W => Tryd.strings_HasSuffix s ⟨#[105]⟩ W (by omega))
  obtain ⟨b, hb⟩ : ∃ b, Lib.hasSuffix s.data.toList (⟨#[105]⟩ : ByteArray).data.toList = b := ⟨_, rfl⟩
  rw [hb] at HF
  have HI := Lib.hid (fun W (hW : Errs W) t (ht : t.size ≤ 281474976710656) => int64_any hW t ht)
  have HM := Lib.hid (fun W p q => gMake_any (w := W) p q)
  have HT := Lib.hid (fun W (hW : Pow W) p q => textMk hW p q)
  have HX := Lib.hid (fun p q => show (⟨(textG (wz p) (wz q)).toArray⟩ : ByteArray) ≠ s from fun he => h (wz p) (wz q) ⟨(wz_range p).1, (wz_range p).2⟩ ⟨(wz_range q).1, (wz_range q).2⟩ (by rw [← he]))
  have HG := Lib.hid hG
  have hszi : (s.size : Int) ≤ 1000000 := by omega
  have HSZ := Lib.hid hs
  clear hb h hG hs
  go_enter Tryd.func17, Tryd.ntmps17
  go_wp2_with fail
  refine (HL.out _ HG.out.u).mono ?_
  rintro e w1 ⟨i, rfl, hi0, hi1, _, hb1⟩
  have HB1 := Lib.hid hb1
  clear hb1
  by_cases hi : i < 1
  · go_wp2
    go_ret2
    exact ⟨rfl, HB1.out⟩
  · obtain ⟨n, rfl⟩ : ∃ n : Nat, i = (n : Int) := ⟨i.toNat, by omega⟩
    have hn2i : (n : Int) ≤ (s.size : Int) - 1 := by omega
    go_wp2_with fail
    refine (HF.out _).mono ?_
    rintro e _ ⟨rfl, rfl⟩
    cases b
    · go_wp2
      go_ret2
      exact ⟨rfl, HB1.out⟩
    · go_wp2_with fail
      refine (HI.out _ (HG.out.e.below HB1.out) _ (by have := HSZ.out; rw [ByteArray.size_extract]; omega)).mono ?_
      rintro e w2 ⟨v1, er1, rfl, hr1, hb2⟩
      have HB2 := Lib.hid (HB1.out.trans (hb2.mono HB1.out.size))
      have HR1 := Lib.hid hr1
      clear hb2 hr1
      go_wp2_with fail
      refine (HI.out _ (HG.out.e.below HB2.out) _ (by have := HSZ.out; rw [ByteArray.size_extract]; omega)).mono ?_
      rintro e w3 ⟨v2, er2, rfl, hr2, hb3⟩
      have HB3 := Lib.hid (HB2.out.trans (hb3.mono HB2.out.size))
      have HR2 := Lib.hid hr2
      clear hb3 hr2
      go_wp2_with fail
      refine (HM.out _ v1 v2).mono ?_
      rintro e _ ⟨rfl, rfl⟩
      have HXX := Lib.hid (seq_false (HX.out v1 v2))
      have HTT := Lib.hid (HT.out _ (HG.out.p.below HB3.out) v1 v2)
      generalize mk v1 v2 = z at *
      generalize (⟨(textG (wz v1) (wz v2)).toArray⟩ : ByteArray) = u at *
      rcases HR1.out with ⟨rfl, _⟩ | ⟨⟨t1, x1, rfl⟩, _⟩
      · rcases HR2.out with ⟨rfl, _⟩ | ⟨⟨t2, x2, rfl⟩, _⟩
        · go_wp2_with fail
          refine HTT.out.mono ?_
          rintro e w4 ⟨rfl, hb4⟩
          have HB4 := Lib.hid (HB3.out.trans (hb4.mono HB3.out.size))
          have hse := HXX.out
          clear hb4
          go_wp2
          go_ret2
          exact ⟨rfl, HB4.out⟩
        · go_wp2
          go_ret2
          exact ⟨rfl, HB3.out⟩
      · go_wp2
        go_ret2
        exact ⟨rfl, HB3.out⟩
end Go.Proofs.YtodphfgopngpeaaDoor
