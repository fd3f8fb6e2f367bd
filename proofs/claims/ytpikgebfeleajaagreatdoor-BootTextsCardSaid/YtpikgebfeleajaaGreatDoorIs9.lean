/-
  isa's program takes a line: labels. Condition: the tables lie as the program's text, and the library's, lay them.
-/
import Derived.StillTailTactics
import Derived.Outline
import Derived.Test.YtpikgebfeleajaaGreatDoorIs8
namespace Go.Proofs.YtpikgebfeleajaaGreatDoor.I
open Go.RowKit Go.Shelf Go.WideMaps
set_option linter.unusedVariables false
set_option linter.unusedSimpArgs false
attribute [local go_sem] Oper.semAt_some

def SLow (pb mb : Nat) (k : Nat) : Prop := k = pb ∨ k = mb
/-- What take leaves. -/
def TakeOut (W : World) (base pb mb : Nat) (r : PgS × Bool) (e : Ending) (W' : World) : Prop :=
  e = .returned (.bool r.2) ∧ ∃ v1' v2', PgAt W' base pb mb r.1 v1' v2' ∧ KqS (SLow pb mb) base W W'
theorem takeOut_same {W W' : World} {base pb mb : Nat} {p : PgS} {v1 v2 : Value} (h : PgAt W base pb mb p v1 v2) (hb : Below W.heap.size W W') (q : Bool) : TakeOut W base pb mb (p, q) (.returned (.bool q)) W' :=
  ⟨rfl, v1, v2, h.below hb, (KqS.refl _ _ _).below hb⟩
theorem cutSuf_some {c : UInt8} {l n : List UInt8} (h : cutSuf c l = some n) : Lib.hasSuffix l [c] = true ∧ Lib.trimSuffix l [c] = n := by
  unfold cutSuf at h
  rw [hasSuf_one, trimSuf_one]
  split at h
  · rename_i h1
    simp only [Option.some.injEq] at h
    rw [if_pos h1]
    exact ⟨decide_eq_true h1, h⟩
  · cases h
theorem cutSuf_none {c : UInt8} {l : List UInt8} (h : cutSuf c l = none) : Lib.hasSuffix l [c] = false ∧ Lib.trimSuffix l [c] = l := by
  unfold cutSuf at h
  rw [hasSuf_one, trimSuf_one]
  split at h
  · cases h
  · rename_i h1
    rw [if_neg h1]
    exact ⟨decide_eq_false h1, rfl⟩
theorem cutSuf_len {c : UInt8} {l n : List UInt8} (h : cutSuf c l = some n) : n.length ≤ l.length := by
  unfold cutSuf at h
  split at h
  · simp only [Option.some.injEq] at h
    rw [← h, List.length_dropLast]
    omega
  · cases h

set_option maxRecDepth 100000 in
set_option maxHeartbeats 4000000 in
theorem take_label {W : World} (hG : Ground W) {base pb mb : Nat} {p : PgS} {v1 v2 : Value} (h : PgAt W base pb mb p v1 v2) (s : ByteArray) (hs : s.size ≤ 1000000) (line : Int) (hw : p.words.length ≤ 512) (hl : p.labs.length ≤ 1000000)
    {n : List UInt8} (hn : cutSuf 58 s.data.toList = some n) :
    Calls Tryz.prog 53 #[.pointer (some ⟨pb, 0, none⟩), .string s, .int .i64 line] W (TakeOut W base pb mb (takeP p s.data.toList line)) := by
  obtain ⟨t, ht⟩ : ∃ t : ByteArray, t = ⟨n.toArray⟩ := ⟨_, rfl⟩
  have htl : t.data.toList = n := by rw [ht]
  have hts : t.size ≤ 1000000 := by
    have e : t.size = n.length := by rw [← htl]; exact (Array.length_toList).symm
    have e2 : s.data.toList.length = s.size := rfl
    have := cutSuf_len hn
    omega
  obtain ⟨e1, e2⟩ := cutSuf_some hn
  have HCS := Lib.hid (fun V => show Calls Tryz.prog 82 #[.string s, .string ⟨#[58]⟩] V fun e w' => e = .returned (.tuple #[.string t, .bool true]) ∧ w' = V from by
    have h1 := Tryz.strings_CutSuffix s ⟨#[58]⟩ V (by omega)
    simp only at h1
    rw [e1, e2] at h1
    rw [ht]
    exact h1)
  have htp : takeP p s.data.toList line = if (labO p.labs t.data.toList).isSome || !nameB t.data.toList then (p, false) else (⟨p.words, (t.data.toList, (p.words.length : Int)) :: p.labs, p.jumps⟩, true) := by
    unfold takeP
    rw [hn, htl]
  rw [htp]
  obtain ⟨c, hlook, hcv⟩ := h.labs.look t (by unfold maxLen; omega)
  obtain ⟨A1, c1, hv1⟩ := own_form h.words
  obtain ⟨A2, c2, hv2⟩ := own_form h.jumps
  have HN := Lib.hid (fun V => nameW_any V t)
  obtain ⟨lb, hlb⟩ : ∃ q, (labO p.labs t.data.toList).isSome = q := ⟨_, rfl⟩
  obtain ⟨nb, hnb⟩ : ∃ q, nameB t.data.toList = q := ⟨_, rfl⟩
  rw [hlb] at hlook
  rw [hlb, hnb]
  rw [hnb] at HN
  have b0 := h.blk.cell 0
  have b1 := h.blk.cell 1
  have b2 := h.blk.cell 2
  have blt := h.blk.lt
  simp only [List.getElem?_toArray, List.getElem?_cons_zero, List.getElem?_cons_succ] at b0 b1 b2
  rw [hv1] at b0
  rw [hv2] at b2
  have HP := Lib.hid h
  have hwl : (p.words.length : Int) ≤ 512 := by omega
  have HT := Lib.hid (show t.size ≤ 1000000 from hts)
  have HV1 := Lib.hid hv1
  have HV2 := Lib.hid hv2
  have HLL := Lib.hid hl
  have HWL := Lib.hid hw
  clear ht htl hn e1 e2 hcv hlb hnb htp hts hs h hv1 hv2 hG hl hw
  cases lb with
  | true =>
    go_enter Tryz.func53, Tryz.ntmps53
    go_wp2_with fail
    refine (HCS.out _).mono ?_
    rintro e w1 ⟨rfl, rfl⟩
    go_wp2
    go_ret
    exact takeOut_same HP.out (by first | exact Below.refl _ _ | (refine below_drewN ?_ _; exact Below.refl _ _)) false
  | false =>
    cases nb with
    | false =>
      go_enter Tryz.func53, Tryz.ntmps53
      go_wp2_with fail
      refine (HCS.out _).mono ?_
      rintro e w1 ⟨rfl, rfl⟩
      go_wp2_with fail
      refine (HN.out _).mono ?_
      rintro e w2 ⟨rfl, hb2⟩
      have HB2 := Lib.hid hb2
      clear hb2 hlook b0 b1 b2 blt
      go_wp2
      go_ret
      exact takeOut_same HP.out HB2.out false
    | true =>
      go_enter Tryz.func53, Tryz.ntmps53
      go_wp2_with fail
      refine (HCS.out _).mono ?_
      rintro e w1 ⟨rfl, rfl⟩
      go_wp2_with fail
      refine (HN.out _).mono ?_
      rintro e w2 ⟨rfl, hb2⟩
      have hP2 := HP.out.below hb2
      have HB2 := Lib.hid hb2
      clear hb2 hlook b0 b1 b2 blt
      have b0 := hP2.blk.cell 0
      have b1 := hP2.blk.cell 1
      have blt := hP2.blk.lt
      simp only [List.getElem?_toArray, List.getElem?_cons_zero, List.getElem?_cons_succ] at b0 b1
      rw [HV1.out] at b0
      have HP2 := Lib.hid hP2
      clear hP2
      go_upto_region 6 with (fail)
      go_still_tail 10, (by kernel_rfl)
      change wpList _ _ _ _ _ w2.drew
      obtain ⟨W3, hrun, hP3, hg3⟩ := (HP2.out.below (Below.refl _ _).drew).label t (by have := HT.out; unfold maxLen; omega) (by have := HWL.out; omega) (by have := HLL.out; unfold maxLen; omega)
      have HP3 := Lib.hid hP3
      have HK3 := Lib.hid (((KqS.refl (SLow pb mb) base _).below (HB2.out.drew)).grown hg3 (fun r e => .inl (.inr (by injection e with e; exact e.symm))))
      clear hP3 hg3 b0 b1 blt
      generalize w2.drew = w3 at *
      go_wp2
      go_ret
      exact ⟨rfl, v1, v2, HP3.out, HK3.out⟩
end Go.Proofs.YtpikgebfeleajaaGreatDoor.I
