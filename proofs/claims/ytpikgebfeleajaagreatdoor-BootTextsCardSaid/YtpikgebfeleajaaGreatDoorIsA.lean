/-
  isa's program takes a line: words. Condition: the tables lie as the program's text, and the library's, lay them.
-/
import Derived.Test.YtpikgebfeleajaaGreatDoorIs9
namespace Go.Proofs.YtpikgebfeleajaaGreatDoor.I
open Go.RowKit Go.Shelf Go.WideMaps
set_option linter.unusedVariables false
set_option linter.unusedSimpArgs false
attribute [local go_sem] Oper.semAt_some

theorem infoU : (Tryz.prog.info? 41).map (fun i => (i.zero, i.size, i.bytes)) = some (some (.int .u32 0), 1, 4) := by kernel_rfl
section
variable {W X Y : World} {base pb mb : Nat} {p : PgS} {v1 v2 v' : Value}
theorem PgAt.notLow (h : PgAt W base pb mb p v1 v2) {t : TypeId} {s : Nat} {v : Value} {n : Nat} {cs : List Value} (ho : W.ownsRow base t s v n cs) : some pb ≠ v.ownBlock ∧ some mb ≠ v.ownBlock := by
  refine ⟨fun e => ?_, fun e => ?_⟩
  · have := (own_row ho pb e.symm).1; have := h.lp; omega
  · have := (own_row ho mb e.symm).1; have := h.lm; omega
/-- One word more. -/
theorem PgAt.word (h : PgAt W base pb mb p v1 v2) {x : Int} (hb : Below W.heap.size W X) (hown : Y.ownsRow base 41 1 v' (p.words.length + 1) (wVals p.words ++ [.int .u32 x])) (hg : X.grownBy Y v1.ownBlock) (hloc : v'.ownBlock = v1.ownBlock ∨ v'.ownBlock = some X.heap.size) :
    PgAt (Y.setCell ⟨pb, 0, none⟩ v') base pb mb ⟨p.words ++ [x], p.labs, p.jumps⟩ v' v2 ∧ KqS (SLow pb mb) base W (Y.setCell ⟨pb, 0, none⟩ v') := by
  have hX := h.below hb
  have hn := h.notLow h.words
  have hblk := ((hX.blk.grown hg hn.1).set_ 0 v')
  have hjm := hX.jumps.kept hg (by
    cases hv : v2.ownBlock with
    | none => exact .inl rfl
    | some r => exact .inr (fun e => h.apart r e.symm hv))
  refine ⟨⟨by simpa using hblk, ?_, (hX.labs.kept hg hn.2).kept (row := some pb) ⟨rfl, rfl, rfl, by simp [World.setCell], fun k hk hkn => Below.heap_setCell Y _ v' k (fun e => hkn (by rw [e]))⟩ (fun e => h.ne (by injection e with e; exact e.symm)), own_set hjm h.lp _, ?_, h.lp, h.lm, ?_⟩, ?_⟩
  · have e : (p.words ++ [x]).length = p.words.length + 1 := by simp
    have e2 : wVals (p.words ++ [x]) = wVals p.words ++ [.int .u32 x] := by simp [wVals]
    show World.ownsRow _ _ _ _ _ (p.words ++ [x]).length (wVals (p.words ++ [x]))
    rw [e, e2]
    exact own_set hown h.lp _
  · intro r hr e
    rcases hloc with h1 | h1
    · exact h.apart r (h1 ▸ hr) e
    · rw [h1] at hr
      injection hr with hr
      obtain ⟨_, o, ho, _⟩ := own_row h.jumps r e
      have := (Array.getElem?_eq_some_iff.1 ho).1
      have := hb.size
      omega
  · have := h.lb; have := hb.size; have := hg.size; simp; omega
  · exact ((((KqS.refl _ base W).below hb).grown hg (fun r hr => .inr (.inr (own_row h.words r hr)))).set_ (p := ⟨pb, 0, none⟩) (.inl (.inl rfl)) v')
/-- One jump more. -/
theorem PgAt.jump (h : PgAt W base pb mb p v1 v2) {j : JmpS} (hb : Below W.heap.size W X) (hown : Y.ownsRow base 104 7 v' (p.jumps.length + 1) (p.jumps.flatMap JmpS.cells ++ j.cells)) (hg : X.grownBy Y v2.ownBlock) (hloc : v'.ownBlock = v2.ownBlock ∨ v'.ownBlock = some X.heap.size) :
    PgAt (Y.setCell ⟨pb, 2, none⟩ v') base pb mb ⟨p.words, p.labs, p.jumps ++ [j]⟩ v1 v' ∧ KqS (SLow pb mb) base W (Y.setCell ⟨pb, 2, none⟩ v') := by
  have hX := h.below hb
  have hn := h.notLow h.jumps
  have hblk := ((hX.blk.grown hg hn.1).set_ 2 v')
  have hwm := hX.words.kept hg (by
    cases hv : v1.ownBlock with
    | none => exact .inl rfl
    | some r => exact .inr (fun e => h.apart r hv e.symm))
  refine ⟨⟨by simpa using hblk, own_set hwm h.lp _, (hX.labs.kept hg hn.2).kept (row := some pb) ⟨rfl, rfl, rfl, by simp [World.setCell], fun k hk hkn => Below.heap_setCell Y _ v' k (fun e => hkn (by rw [e]))⟩ (fun e => h.ne (by injection e with e; exact e.symm)), ?_, ?_, h.lp, h.lm, ?_⟩, ?_⟩
  · have e : (p.jumps ++ [j]).length = p.jumps.length + 1 := by simp
    have e2 : (p.jumps ++ [j]).flatMap JmpS.cells = p.jumps.flatMap JmpS.cells ++ j.cells := by simp
    show World.ownsRow _ _ _ _ _ (p.jumps ++ [j]).length ((p.jumps ++ [j]).flatMap JmpS.cells)
    rw [e, e2]
    exact own_set hown h.lp _
  · intro r hr e
    rcases hloc with h1 | h1
    · exact h.apart r hr (h1 ▸ e)
    · rw [h1] at e
      injection e with e
      obtain ⟨_, o, ho, _⟩ := own_row h.words r hr
      have := (Array.getElem?_eq_some_iff.1 ho).1
      have := hb.size
      omega
  · have := h.lb; have := hb.size; have := hg.size; simp; omega
  · exact ((((KqS.refl _ base W).below hb).grown hg (fun r hr => .inr (.inr (own_row h.jumps r hr)))).set_ (p := ⟨pb, 2, none⟩) (.inl (.inl rfl)) v')
end
theorem hasPre_is (s : List UInt8) : Lib.hasPrefix s wordP = wordP.isPrefixOf s := rfl
theorem bytes_pow {w w' : World} (h : Ground w) (hb : Below w.heap.size w w') : Pow w' := (h.below hb).pow

set_option maxRecDepth 100000 in
set_option maxHeartbeats 4000000 in
theorem take_word {W : World} (hG : Ground W) {base pb mb : Nat} {p : PgS} {v1 v2 : Value} (h : PgAt W base pb mb p v1 v2) (s : ByteArray) (hs : s.size ≤ 1000000) (line : Int)
    (hn : cutSuf 58 s.data.toList = none) (hpre : 512 ≤ p.words.length ∨ wordP.isPrefixOf s.data.toList = true) (hbig : p.words.length ≤ 512) :
    Calls Tryz.prog 53 #[.pointer (some ⟨pb, 0, none⟩), .string s, .int .i64 line] W (TakeOut W base pb mb (takeP p s.data.toList line)) := by
  obtain ⟨e1, e2⟩ := cutSuf_none hn
  have HCS := Lib.hid (fun V => show Calls Tryz.prog 82 #[.string s, .string ⟨#[58]⟩] V fun e w' => e = .returned (.tuple #[.string s, .bool false]) ∧ w' = V from by
    have h1 := Tryz.strings_CutSuffix s ⟨#[58]⟩ V (by omega)
    simp only at h1
    rw [e1, e2] at h1
    exact h1)
  obtain ⟨A1, c1, hv1⟩ := own_form h.words
  have b0 := h.blk.cell 0
  have blt := h.blk.lt
  simp only [List.getElem?_toArray, List.getElem?_cons_zero, List.getElem?_cons_succ] at b0
  rw [hv1] at b0
  have f0 := h.blk.frozen 0
  have HP := Lib.hid h
  have HV1 := Lib.hid hv1
  have HG := Lib.hid hG
  have HS := Lib.hid hs
  by_cases hfull : 512 ≤ p.words.length
  · have hwl : (512 : Int) ≤ (p.words.length : Int) := by omega
    have htp : takeP p s.data.toList line = (p, false) := by
      unfold takeP
      rw [hn]
      simp only
      rw [if_pos hfull]
    rw [htp]
    clear htp hfull e1 e2 hn hpre hG h hv1 hs hbig
    go_enter Tryz.func53, Tryz.ntmps53
    go_wp2_with fail
    refine (HCS.out _).mono ?_
    rintro e w1 ⟨rfl, rfl⟩
    go_wp2
    go_ret
    exact takeOut_same HP.out (Below.refl _ _) false
  · have hwl : ¬ (512 : Int) ≤ (p.words.length : Int) := by omega
    have hpre : wordP.isPrefixOf s.data.toList = true := hpre.resolve_left hfull
    obtain ⟨t, ht⟩ : ∃ t : ByteArray, t = ⟨(s.data.toList.drop 5).toArray⟩ := ⟨_, rfl⟩
    have htl : t.data.toList = s.data.toList.drop 5 := by rw [ht]
    have HCP := Lib.hid (fun V => show Calls Tryz.prog 50 #[.string s, .string ⟨#[119, 111, 114, 100, 32]⟩] V fun e w' => e = .returned (.tuple #[.string t, .bool true]) ∧ w' = V from by
      have h1 := Tryz.strings_CutPrefix s ⟨#[119, 111, 114, 100, 32]⟩ V
      simp only at h1
      have h2 : Lib.hasPrefix s.data.toList [119, 111, 114, 100, 32] = true := hpre
      have h3 : Lib.trimPrefix s.data.toList [119, 111, 114, 100, 32] = s.data.toList.drop 5 := by
        unfold Lib.trimPrefix
        rw [if_pos h2]
        rfl
      rw [h2, h3] at h1
      rw [ht]
      exact h1)
    have htp : takeP p s.data.toList line = (⟨p.words ++ [numN t.data.toList % 4294967296], p.labs, p.jumps⟩, numB t.data.toList && decide (0 ≤ numN t.data.toList ∧ numN t.data.toList < 4294967296)) := by
      unfold takeP
      rw [hn, htl]
      simp only
      rw [if_neg hfull, if_pos hpre]
    rw [htp]
    have HNU := Lib.hid (number_any hG.pow t)
    obtain ⟨nv, hnv⟩ : ∃ q, numN t.data.toList = q := ⟨_, rfl⟩
    obtain ⟨nb, hnb⟩ : ∃ q, numB t.data.toList = q := ⟨_, rfl⟩
    have hr := numN_range t.data.toList
    rw [hnv] at hr
    rw [hnv, hnb] at HNU ⊢
    obtain ⟨i0, hi, hz0, hz1, hz2⟩ := info_parts infoU
    have hwl2 : p.words.length ≤ 512 := by omega
    clear htp hfull e1 e2 hn hpre hG h hv1 hs ht htl hnv hnb hbig
    obtain ⟨r, hrr⟩ : ∃ r, (nb && decide (0 ≤ nv ∧ nv < 4294967296)) = r := ⟨_, rfl⟩
    rw [hrr]
    have h3 : (nb = false ∧ r = false) ∨ (nb = true ∧ nv < 0 ∧ r = false) ∨ (nb = true ∧ 0 ≤ nv ∧ nv < 4294967296 ∧ r = true) ∨ (nb = true ∧ 0 ≤ nv ∧ ¬ nv < 4294967296 ∧ r = false) := by
      cases nb
      · exact .inl ⟨rfl, hrr.symm⟩
      · rw [Bool.true_and] at hrr
        by_cases h1 : nv < 0
        · rw [decide_eq_false (by omega)] at hrr
          exact .inr (.inl ⟨rfl, h1, hrr.symm⟩)
        · by_cases h2 : nv < 4294967296
          · rw [decide_eq_true (by omega)] at hrr
            exact .inr (.inr (.inl ⟨rfl, by omega, h2, hrr.symm⟩))
          · rw [decide_eq_false (by omega)] at hrr
            exact .inr (.inr (.inr ⟨rfl, by omega, h2, hrr.symm⟩))
    clear hrr
    rcases h3 with ⟨rfl, rfl⟩ | ⟨rfl, h1, rfl⟩ | ⟨rfl, h1, h2, rfl⟩ | ⟨rfl, h1, h2, rfl⟩
    all_goals
     try have d1 : decide (0 ≤ nv) = true := decide_eq_true h1
     try have d1 : decide (0 ≤ nv) = false := decide_eq_false (by omega)
     try have d2 : decide (nv < 4294967296) = false := decide_eq_false h2
     try have d2 : decide (nv < 4294967296) = true := decide_eq_true h2
     try clear h2
     try clear h1
     go_enter Tryz.func53, Tryz.ntmps53
     go_wp2_with fail
     refine (HCS.out _).mono ?_
     rintro e w1 ⟨rfl, rfl⟩
     go_wp2_with fail
     refine (HCP.out _).mono ?_
     rintro e w2 ⟨rfl, rfl⟩
     go_wp2_with fail
     refine HNU.out.mono ?_
     rintro e w3 ⟨rfl, hb3⟩
     have hP3 := HP.out.below hb3
     have HB3 := Lib.hid hb3
     clear b0 blt f0 hb3 HNU HG
     have b0 := hP3.blk.cell 0
     have blt := hP3.blk.lt
     have f0 := hP3.blk.frozen 0
     simp only [List.getElem?_toArray, List.getElem?_cons_zero, List.getElem?_cons_succ] at b0
     rw [HV1.out] at b0
     have hown := hP3.words
     rw [HV1.out] at hown
     have hlb := hP3.lb
     have HP3 := Lib.hid hP3
     clear hP3
     go_wp2_with (at_builtin; refine wpList_append_own_at _ rfl _ _ 22 rfl base 41 i0 _ 1 4 Tryz.underlying22 hi hz0 hz1 hz2 rfl (by decide) _ _ _ rfl (hown.alloc _) ⟨w3.heap.size, 0, none⟩ 1 1 [.int .u32 (nv % 4294967296)] rfl rfl (cell_one_new _ _ _) (by simp [Value.oneCell']) (by unfold maxLen; omega) (by omega) (by simp; omega) ?_; intro v' w4 hown4 hgrow4 _ hloc4; obtain ⟨A', c', rfl⟩ := own_form hown4; have hb5 := (HP3.out.blk.alloc _).grown hgrow4 (HV1.out ▸ (HP3.out.notLow HP3.out.words).1); have f5 := hb5.frozen 0; have c5 := hb5.cell 0; have l5 := hb5.lt; simp only [List.getElem?_toArray, List.getElem?_cons_zero] at c5)
     obtain ⟨hP5, hK5⟩ := HP3.out.word (x := nv % 4294967296) ((Below.refl w3.heap.size w3).alloc (Nat.le_refl _) (.cells #[.int .u32 (nv % 4294967296)] 41)) hown4 (HV1.out ▸ hgrow4) (HV1.out ▸ hloc4)
     go_ret
     exact ⟨rfl, _, _, hP5, ((KqS.refl _ _ _).below HB3.out).trans hK5⟩
end Go.Proofs.YtpikgebfeleajaaGreatDoor.I
