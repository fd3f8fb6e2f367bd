/-
  isa's program takes a line: instructions. Condition: the tables lie as the program's text, and the library's, lay them.
-/
import Derived.Test.YtoglmemmdolbmaaDoorIs9
import Derived.Deep.CutRange
import Derived.Deep.RegionLaw
namespace Go.Proofs.YtoglmemmdolbmaaDoor.I
section
open Go.RowKit Go.Shelf Go.WideMaps
set_option linter.unusedVariables false
set_option linter.unusedSimpArgs false
attribute [local go_sem] Oper.semAt_some

theorem infoU : (Tryd.prog.info? 22).map (fun i => (i.zero, i.size, i.bytes)) = some (some (.int .u32 0), 1, 4) := by kernel_rfl
section
variable {W X Y : World} {base pb mb : Nat} {p : PgS} {v1 v2 v' : Value}
theorem PgAt.notLow (h : PgAt W base pb mb p v1 v2) {t : TypeId} {s : Nat} {v : Value} {n : Nat} {cs : List Value} (ho : W.ownsRow base t s v n cs) : some pb ≠ v.ownBlock ∧ some mb ≠ v.ownBlock := by
  refine ⟨fun e => ?_, fun e => ?_⟩
  · have := (own_row ho pb e.symm).1; have := h.lp; omega
  · have := (own_row ho mb e.symm).1; have := h.lm; omega
/-- One word more. -/
theorem PgAt.word (h : PgAt W base pb mb p v1 v2) {x : Int} (hb : Below W.heap.size W X) (hown : Y.ownsRow base 22 1 v' (p.words.length + 1) (wVals p.words ++ [.int .u32 x])) (hg : X.grownBy Y v1.ownBlock) (hloc : v'.ownBlock = v1.ownBlock ∨ v'.ownBlock = some X.heap.size) :
    PgAt (Y.setCell ⟨pb, 0, none⟩ v') base pb mb ⟨p.words ++ [x], p.labs, p.jumps⟩ v' v2 ∧ KqS (SLow pb mb) base W (Y.setCell ⟨pb, 0, none⟩ v') := by
  have hX := h.below hb
  have hn := h.notLow h.words
  have hblk := ((hX.blk.grown hg hn.1).set_ 0 v')
  have hjm := hX.jumps.kept hg (by
    cases hv : v2.ownBlock with
    | none => exact .inl rfl
    | some r => exact .inr (fun e => h.apart r e.symm hv))
  refine ⟨⟨by simpa using hblk, ?_, (hX.labs.kept hg hn.2).kept (row := some pb) ⟨rfl, rfl, rfl, by simp [World.setCell], fun k hk hkn => Below.heap_setCell Y _ v' k (fun e => hkn (by rw [e]))⟩ (fun e => h.ne (by injection e with e; exact e.symm)), own_set hjm h.lp _, ?_, h.lp, h.lm, ?_⟩, ?_⟩
  · have e : (p.words ++ [x]).length = p.words.length + 1 := by simp
    have e2 : wVals (p.words ++ [x]) = wVals p.words ++ [.int .u32 x] := by simp [wVals]
    show World.ownsRow _ _ _ _ _ (p.words ++ [x]).length (wVals (p.words ++ [x]))
    rw [e, e2]
    exact own_set hown h.lp _
  · intro r hr e
    rcases hloc with h1 | h1
    · exact h.apart r (h1 ▸ hr) e
    · rw [h1] at hr
      injection hr with hr
      obtain ⟨_, o, ho, _⟩ := own_row h.jumps r e
      have := (Array.getElem?_eq_some_iff.1 ho).1
      have := hb.size
      omega
  · have := h.lb; have := hb.size; have := hg.size; simp; omega
  · exact ((((KqS.refl _ base W).below hb).grown hg (fun r hr => .inr (.inr (own_row h.words r hr)))).set_ (p := ⟨pb, 0, none⟩) (.inl (.inl rfl)) v')
/-- One jump more. -/
theorem PgAt.jump (h : PgAt W base pb mb p v1 v2) {j : JmpS} (hb : Below W.heap.size W X) (hown : Y.ownsRow base 112 7 v' (p.jumps.length + 1) (p.jumps.flatMap JmpS.cells ++ j.cells)) (hg : X.grownBy Y v2.ownBlock) (hloc : v'.ownBlock = v2.ownBlock ∨ v'.ownBlock = some X.heap.size) :
    PgAt (Y.setCell ⟨pb, 2, none⟩ v') base pb mb ⟨p.words, p.labs, p.jumps ++ [j]⟩ v1 v' ∧ KqS (SLow pb mb) base W (Y.setCell ⟨pb, 2, none⟩ v') := by
  have hX := h.below hb
  have hn := h.notLow h.jumps
  have hblk := ((hX.blk.grown hg hn.1).set_ 2 v')
  have hwm := hX.words.kept hg (by
    cases hv : v1.ownBlock with
    | none => exact .inl rfl
    | some r => exact .inr (fun e => h.apart r hv e.symm))
  refine ⟨⟨by simpa using hblk, own_set hwm h.lp _, (hX.labs.kept hg hn.2).kept (row := some pb) ⟨rfl, rfl, rfl, by simp [World.setCell], fun k hk hkn => Below.heap_setCell Y _ v' k (fun e => hkn (by rw [e]))⟩ (fun e => h.ne (by injection e with e; exact e.symm)), ?_, ?_, h.lp, h.lm, ?_⟩, ?_⟩
  · have e : (p.jumps ++ [j]).length = p.jumps.length + 1 := by simp
    have e2 : (p.jumps ++ [j]).flatMap JmpS.cells = p.jumps.flatMap JmpS.cells ++ j.cells := by simp
    show World.ownsRow _ _ _ _ _ (p.jumps ++ [j]).length ((p.jumps ++ [j]).flatMap JmpS.cells)
    rw [e, e2]
    exact own_set hown h.lp _
  · intro r hr e
    rcases hloc with h1 | h1
    · exact h.apart r hr (h1 ▸ e)
    · rw [h1] at e
      injection e with e
      obtain ⟨_, o, ho, _⟩ := own_row h.words r hr
      have := (Array.getElem?_eq_some_iff.1 ho).1
      have := hb.size
      omega
  · have := h.lb; have := hb.size; have := hg.size; simp; omega
  · exact ((((KqS.refl _ base W).below hb).grown hg (fun r hr => .inr (.inr (own_row h.jumps r hr)))).set_ (p := ⟨pb, 2, none⟩) (.inl (.inl rfl)) v')
end
theorem hasPre_is (s : List UInt8) : Lib.hasPrefix s wordP = wordP.isPrefixOf s := rfl
theorem bytes_pow {w w' : World} (h : Ground w) (hb : Below w.heap.size w w') : Pow w' := (h.below hb).pow

set_option maxRecDepth 100000 in
set_option maxHeartbeats 4000000 in
theorem take_word {W : World} (hG : Ground W) {base pb mb : Nat} {p : PgS} {v1 v2 : Value} (h : PgAt W base pb mb p v1 v2) (s : ByteArray) (hs : s.size ≤ 1000000) (line : Int)
    (hn : cutSuf 58 s.data.toList = none) (hpre : 512 ≤ p.words.length ∨ wordP.isPrefixOf s.data.toList = true) (hbig : p.words.length ≤ 512) :
    Calls Tryd.prog 49 #[.pointer (some ⟨pb, 0, none⟩), .string s, .int .i64 line] W (TakeOut W base pb mb (takeP p s.data.toList line)) := by
  obtain ⟨e1, e2⟩ := cutSuf_none hn
  have HCS := Lib.hid (fun V => show Calls Tryd.prog 66 #[.string s, .string ⟨#[58]⟩] V fun e w' => e = .returned (.tuple #[.string s, .bool false]) ∧ w' = V from by
    have h1 := Tryd.strings_CutSuffix s ⟨#[58]⟩ V (by omega)
    simp only at h1
    rw [e1, e2] at h1
    exact h1)
  obtain ⟨A1, c1, hv1⟩ := own_form h.words
  have b0 := h.blk.cell 0
  have blt := h.blk.lt
  simp only [List.getElem?_toArray, List.getElem?_cons_zero, List.getElem?_cons_succ] at b0
  rw [hv1] at b0
  have f0 := h.blk.frozen 0
  have HP := Lib.hid h
  have HV1 := Lib.hid hv1
  have HG := Lib.hid hG
  have HS := Lib.hid hs
  by_cases hfull : 512 ≤ p.words.length
  · have hwl : (512 : Int) ≤ (p.words.length : Int) := by omega
    have htp : takeP p s.data.toList line = (p, false) := by
      unfold takeP
      rw [hn]
      simp only
      rw [if_pos hfull]
    rw [htp]
    clear htp hfull e1 e2 hn hpre hG h hv1 hs hbig
    go_enter Tryd.func49, Tryd.ntmps49
    go_wp2_with fail
    refine (HCS.out _).mono ?_
    rintro e w1 ⟨rfl, rfl⟩
    go_wp2
    go_ret
    exact takeOut_same HP.out (Below.refl _ _) false
  · have hwl : ¬ (512 : Int) ≤ (p.words.length : Int) := by omega
    have hpre : wordP.isPrefixOf s.data.toList = true := hpre.resolve_left hfull
    obtain ⟨t, ht⟩ : ∃ t : ByteArray, t = ⟨(s.data.toList.drop 5).toArray⟩ := ⟨_, rfl⟩
    have htl : t.data.toList = s.data.toList.drop 5 := by rw [ht]
    have HCP := Lib.hid (fun V => show Calls Tryd.prog 68 #[.string s, .string ⟨#[119, 111, 114, 100, 32]⟩] V fun e w' => e = .returned (.tuple #[.string t, .bool true]) ∧ w' = V from by
      have h1 := Tryd.strings_CutPrefix s ⟨#[119, 111, 114, 100, 32]⟩ V
      simp only at h1
      have h2 : Lib.hasPrefix s.data.toList [119, 111, 114, 100, 32] = true := hpre
      have h3 : Lib.trimPrefix s.data.toList [119, 111, 114, 100, 32] = s.data.toList.drop 5 := by
        unfold Lib.trimPrefix
        rw [if_pos h2]
        rfl
      rw [h2, h3] at h1
      rw [ht]
      exact h1)
    have htp : takeP p s.data.toList line = (⟨p.words ++ [numN t.data.toList % 4294967296], p.labs, p.jumps⟩, numB t.data.toList && decide (0 ≤ numN t.data.toList ∧ numN t.data.toList < 4294967296)) := by
      unfold takeP
      rw [hn, htl]
      simp only
      rw [if_neg hfull, if_pos hpre]
    rw [htp]
    have HNU := Lib.hid (number_any hG.pow t)
    obtain ⟨nv, hnv⟩ : ∃ q, numN t.data.toList = q := ⟨_, rfl⟩
    obtain ⟨nb, hnb⟩ : ∃ q, numB t.data.toList = q := ⟨_, rfl⟩
    have hr := numN_range t.data.toList
    rw [hnv] at hr
    rw [hnv, hnb] at HNU ⊢
    obtain ⟨i0, hi, hz0, hz1, hz2⟩ := info_parts infoU
    have hwl2 : p.words.length ≤ 512 := by omega
    clear htp hfull e1 e2 hn hpre hG h hv1 hs ht htl hnv hnb hbig
    obtain ⟨r, hrr⟩ : ∃ r, (nb && decide (0 ≤ nv ∧ nv < 4294967296)) = r := ⟨_, rfl⟩
    rw [hrr]
    have h3 : (nb = false ∧ r = false) ∨ (nb = true ∧ nv < 0 ∧ r = false) ∨ (nb = true ∧ 0 ≤ nv ∧ nv < 4294967296 ∧ r = true) ∨ (nb = true ∧ 0 ≤ nv ∧ ¬ nv < 4294967296 ∧ r = false) := by
      cases nb
      · exact .inl ⟨rfl, hrr.symm⟩
      · rw [Bool.true_and] at hrr
        by_cases h1 : nv < 0
        · rw [decide_eq_false (by omega)] at hrr
          exact .inr (.inl ⟨rfl, h1, hrr.symm⟩)
        · by_cases h2 : nv < 4294967296
          · rw [decide_eq_true (by omega)] at hrr
            exact .inr (.inr (.inl ⟨rfl, by omega, h2, hrr.symm⟩))
          · rw [decide_eq_false (by omega)] at hrr
            exact .inr (.inr (.inr ⟨rfl, by omega, h2, hrr.symm⟩))
    clear hrr
    rcases h3 with ⟨rfl, rfl⟩ | ⟨rfl, h1, rfl⟩ | ⟨rfl, h1, h2, rfl⟩ | ⟨rfl, h1, h2, rfl⟩
    all_goals
     try have d1 : decide (0 ≤ nv) = true := decide_eq_true h1
     try have d1 : decide (0 ≤ nv) = false := decide_eq_false (by omega)
     try have d2 : decide (nv < 4294967296) = false := decide_eq_false h2
     try have d2 : decide (nv < 4294967296) = true := decide_eq_true h2
     try clear h2
     try clear h1
     go_enter Tryd.func49, Tryd.ntmps49
     go_wp2_with fail
     refine (HCS.out _).mono ?_
     rintro e w1 ⟨rfl, rfl⟩
     go_wp2_with fail
     refine (HCP.out _).mono ?_
     rintro e w2 ⟨rfl, rfl⟩
     go_wp2_with fail
     refine HNU.out.mono ?_
     rintro e w3 ⟨rfl, hb3⟩
     have hP3 := HP.out.below hb3
     have HB3 := Lib.hid hb3
     clear b0 blt f0 hb3 HNU HG
     have b0 := hP3.blk.cell 0
     have blt := hP3.blk.lt
     have f0 := hP3.blk.frozen 0
     simp only [List.getElem?_toArray, List.getElem?_cons_zero, List.getElem?_cons_succ] at b0
     rw [HV1.out] at b0
     have hown := hP3.words
     rw [HV1.out] at hown
     have hlb := hP3.lb
     have HP3 := Lib.hid hP3
     clear hP3
     go_wp2_with (at_builtin; refine wpList_append_own_at _ rfl _ _ 70 rfl base 22 i0 _ 1 4 Tryd.underlying70 hi hz0 hz1 hz2 rfl (by decide) _ _ _ rfl (hown.alloc _) ⟨w3.heap.size, 0, none⟩ 1 1 [.int .u32 (nv % 4294967296)] rfl rfl (cell_one_new _ _ _) (by simp [Value.oneCell']) (by unfold maxLen; omega) (by omega) (by simp; omega) ?_; intro v' w4 hown4 hgrow4 _ hloc4; obtain ⟨A', c', rfl⟩ := own_form hown4; have hb5 := (HP3.out.blk.alloc _).grown hgrow4 (HV1.out ▸ (HP3.out.notLow HP3.out.words).1); have f5 := hb5.frozen 0; have c5 := hb5.cell 0; have l5 := hb5.lt; simp only [List.getElem?_toArray, List.getElem?_cons_zero] at c5)
     obtain ⟨hP5, hK5⟩ := HP3.out.word (x := nv % 4294967296) ((Below.refl w3.heap.size w3).alloc (Nat.le_refl _) (.cells #[.int .u32 (nv % 4294967296)] 22)) hown4 (HV1.out ▸ hgrow4) (HV1.out ▸ hloc4)
     go_ret
     exact ⟨rfl, _, _, hP5, ((KqS.refl _ _ _).below HB3.out).trans hK5⟩
end
end Go.Proofs.YtoglmemmdolbmaaDoor.I
namespace Go.Proofs.YtoglmemmdolbmaaDoor.I
section
open Go.RowKit Go.Shelf Go.WideMaps
set_option linter.unusedVariables false
set_option linter.unusedSimpArgs false
attribute [local go_sem] Oper.semAt_some

theorem infoJ : (Tryd.prog.info? 112).map (fun i => (i.zero, i.size, i.bytes)) = some (some (.agg #[.int .i64 0, .int .i64 0, .int .i64 0, .int .i64 0, .int .i64 0, .string ⟨#[]⟩, .int .i64 0]), 7, 64) := by kernel_rfl

theorem laid_kq {W V : World} {base pb mb : Nat} {p : PgS} {v1 v2 : Value} (h : Laid W) (hP : PgAt W base pb mb p v1 v2) (hk : KqS (SLow pb mb) base W V) (hg : 0 < base) : Laid V := by
  obtain ⟨t, hb⟩ := h.forms
  refine ⟨t, hk.blk hb (fun e => ?_) hg⟩
  rcases e with e | e
  · have h1 := hP.blk
    rw [← e] at h1
    have h2 := (show W.heap[0]? = _ from hb).symm.trans h1
    injection h2 with h2
    injection h2 with h2 _
    have h3 : fArr.size = 3 := congrArg Array.size h2
    exact absurd h3 (by decide +kernel)
  · obtain ⟨D, ⟨es, clock, hm, _⟩, _⟩ := hP.labs
    rw [← e] at hm
    have h2 := (show W.heap[0]? = _ from hb).symm.trans hm
    cases h2

set_option maxRecDepth 100000 in
set_option maxHeartbeats 8000000 in
theorem take_ins {W : World} (hG : Ground W) {base pb mb : Nat} {p : PgS} {v1 v2 : Value} (h : PgAt W base pb mb p v1 v2) (s : ByteArray) (hs : s.size ≤ 1000000) (line : Int)
    (hn : cutSuf 58 s.data.toList = none) (hpre : wordP.isPrefixOf s.data.toList = false) (hbig : p.words.length < 512) (hjl : p.jumps.length ≤ p.words.length) (hgb : 0 < base) :
    Calls Tryd.prog 49 #[.pointer (some ⟨pb, 0, none⟩), .string s, .int .i64 line] W (TakeOut W base pb mb (takeP p s.data.toList line)) := by
  obtain ⟨e1, e2⟩ := cutSuf_none hn
  have HCS := Lib.hid (fun V => show Calls Tryd.prog 66 #[.string s, .string ⟨#[58]⟩] V fun e w' => e = .returned (.tuple #[.string s, .bool false]) ∧ w' = V from by
    have h1 := Tryd.strings_CutSuffix s ⟨#[58]⟩ V (by omega)
    simp only at h1
    rw [e1, e2] at h1
    exact h1)
  have HCP := Lib.hid (fun V => show Calls Tryd.prog 68 #[.string s, .string ⟨#[119, 111, 114, 100, 32]⟩] V fun e w' => e = .returned (.tuple #[.string s, .bool false]) ∧ w' = V from by
    have h1 := Tryd.strings_CutPrefix s ⟨#[119, 111, 114, 100, 32]⟩ V
    simp only at h1
    have h2 : Lib.hasPrefix s.data.toList [119, 111, 114, 100, 32] = false := hpre
    have h3 : Lib.trimPrefix s.data.toList [119, 111, 114, 100, 32] = s.data.toList := by
      unfold Lib.trimPrefix
      rw [if_neg (by rw [h2]; decide)]
    rw [h2, h3] at h1
    exact h1)
  have HSP := Lib.hid (split_any hG.max s (by omega))
  obtain ⟨ws, hws⟩ : ∃ ws, ws = pieces s.data.toList := ⟨_, rfl⟩
  rw [← hws] at HSP
  have hne : 0 < ws.length := by rw [hws]; exact List.length_pos_iff.2 (pieces_ne _)
  have hlen : ws.length ≤ 1000001 := by
    rw [hws, pieces_len]
    have := List.count_le_length (a := (32 : UInt8)) (l := s.data.toList)
    have h2 : s.data.toList.length = s.size := rfl
    omega
  have hbs : Below W.heap.size W (W.alloc (.cells (ws.map strV).toArray 9)) := (Below.refl _ _).alloc (Nat.le_refl _) _
  have HN := Lib.hid (named_any (hG.below hbs) W.heap.size ws (Blk.new _ _ _) hne hlen)
  unfold nmV at HN
  have htp : takeP p s.data.toList line = (⟨p.words ++ [encW (namedT ws).x], p.labs, if (namedT ws).lab = [] then p.jumps else p.jumps ++ [⟨p.words.length, (namedT ws).x, (namedT ws).lab, line⟩]⟩, (namedT ws).is) := by
    unfold takeP
    rw [hn, ← hws]
    simp only
    rw [if_neg (by omega), if_neg (by rw [hpre]; decide)]
  rw [htp]
  obtain ⟨tis, htis⟩ : ∃ q, (namedT ws).is = q := ⟨_, rfl⟩
  obtain ⟨tl, htl⟩ : ∃ q, (namedT ws).lab = q := ⟨_, rfl⟩
  obtain ⟨tx, htx⟩ : ∃ q, (namedT ws).x = q := ⟨_, rfl⟩
  rw [htis, htl, htx] at HN ⊢
  obtain ⟨vo, va, vb, vm⟩ := tx
  unfold Ins.cells at HN
  obtain ⟨A1, c1, hv1⟩ := own_form h.words
  obtain ⟨A2, c2, hv2⟩ := own_form h.jumps
  obtain ⟨ew, hew⟩ : ∃ q, encW ⟨vo, va, vb, vm⟩ = q := ⟨_, rfl⟩
  obtain ⟨er, her⟩ : ∃ q, errI ⟨vo, va, vb, vm⟩ = q := ⟨_, rfl⟩
  have HEN := Lib.hid (fun V (hV : Laid V) => show Calls Tryd.prog 50 #[.agg #[.int .i64 vo, .int .i64 va, .int .i64 vb, .int .i64 vm]] V fun e w' => e = .returned (.tuple #[.int .u32 ew, .int .i64 er]) ∧ Below V.heap.size V w' from by
    have h1 := encode_any hV vo va vb vm
    rw [hew, her] at h1
    exact h1)
  rw [hew]
  obtain ⟨post, hpost⟩ : ∃ post : Ending → World → Prop, post = TakeOut W base pb mb (⟨p.words ++ [ew], p.labs, if tl = [] then p.jumps else p.jumps ++ [⟨p.words.length, ⟨vo, va, vb, vm⟩, tl, line⟩]⟩, tis) := ⟨_, rfl⟩
  rw [← hpost]
  have HPOST := Lib.hid hpost
  obtain ⟨i0, hi, hz0, hz1, hz2⟩ := info_parts infoU
  obtain ⟨i1, hi', hz0', hz1', hz2'⟩ := info_parts infoJ
  have b0 := h.blk.cell 0
  have b2 := h.blk.cell 2
  have blt := h.blk.lt
  simp only [List.getElem?_toArray, List.getElem?_cons_zero, List.getElem?_cons_succ] at b0 b2
  rw [hv1] at b0
  rw [hv2] at b2
  have hwl : ¬ (512 : Int) ≤ (p.words.length : Int) := by omega
  have HP := Lib.hid h
  have HV1 := Lib.hid hv1
  have HV2 := Lib.hid hv2
  have HG := Lib.hid hG
  have HBS := Lib.hid hbs
  clear htp hpost e1 e2 hn hpre hG h hv1 hv2 hs hws hne hlen hbs htis htl htx hew her
  obtain ⟨tb, htb⟩ : ∃ tb : ByteArray, (⟨tl.toArray⟩ : ByteArray) = tb := ⟨_, rfl⟩
  rw [htb] at HN
  have HTB := Lib.hid htb
  clear htb
  go_enter Tryd.func49, Tryd.ntmps49
  go_wp2_with fail
  refine (HCS.out _).mono ?_
  rintro e w1 ⟨rfl, rfl⟩
  go_wp2_with fail
  refine (HCP.out _).mono ?_
  rintro e w2 ⟨rfl, rfl⟩
  go_wp2_with fail
  refine HSP.out.mono ?_
  rintro e w3 ⟨rfl, rfl⟩
  go_wp2_with fail
  refine HN.out.mono ?_
  rintro e w4 ⟨rfl, hb4⟩
  have hB4 := HBS.out.trans (hb4.mono HBS.out.size)
  have hP4 := HP.out.below hB4
  clear b0 b2 blt hb4 HCS HCP HSP HN HBS
  have hB5 := bl_new hB4 (.cells #[.int .i64 vo, .int .i64 va, .int .i64 vb, .int .i64 vm] 38)
  have hX5 := Blk.new w4 38 #[.int .i64 vo, .int .i64 va, .int .i64 vb, .int .i64 vm]
  have HP5 := Lib.hid (hP4.below ((Below.refl _ _).alloc (Nat.le_refl _) (.cells #[.int .i64 vo, .int .i64 va, .int .i64 vb, .int .i64 vm] 38)))
  have b0 := HP5.out.blk.cell 0
  have b2 := HP5.out.blk.cell 2
  have blt := HP5.out.blk.lt
  have f0 := HP5.out.blk.frozen 0
  have f2 := HP5.out.blk.frozen 2
  simp only [List.getElem?_toArray, List.getElem?_cons_zero, List.getElem?_cons_succ] at b0 b2
  rw [HV1.out] at b0
  rw [HV2.out] at b2
  obtain ⟨x0, x1, x2, x3, xlt⟩ := ccells hX5
  have HP4 := Lib.hid hP4
  have HB5 := Lib.hid hB5
  have HX5 := Lib.hid hX5
  clear hB5 hX5 hP4 hB4
  by_cases hte : tl = []
  · have HPO := Lib.hid (HPOST.out.trans (by rw [if_pos hte]))
    have hem : tb.toList.isEmpty = true := by rw [Lib.toList_data, ← HTB.out, hte]; rfl
    clear hte
    go_wp2_with fail
    refine (HEN.out _ (HG.out.laid.below HB5.out)).mono ?_
    rintro e w8 ⟨rfl, hb8⟩
    have HP8 := Lib.hid (HP5.out.below hb8)
    have HK8 := Lib.hid (((KqS.refl (SLow pb mb) base _).below HB5.out).below hb8)
    clear b0 b2 blt f0 f2 x0 x1 x2 x3 xlt hb8
    have b0 := HP8.out.blk.cell 0
    have blt := HP8.out.blk.lt
    have f0 := HP8.out.blk.frozen 0
    simp only [List.getElem?_toArray, List.getElem?_cons_zero, List.getElem?_cons_succ] at b0
    rw [HV1.out] at b0
    have hown := HP8.out.words
    rw [HV1.out] at hown
    have hlb := HP8.out.lb
    go_wp2_with (at_builtin; refine wpList_append_own_at _ rfl _ _ 70 rfl base 22 i0 _ 1 4 Tryd.underlying70 hi hz0 hz1 hz2 rfl (by decide) _ _ _ rfl (hown.alloc _) ⟨w8.heap.size, 0, none⟩ 1 1 [.int .u32 ew] rfl rfl (cell_one_new _ _ _) (by simp [Value.oneCell']) (by unfold maxLen; omega) (by omega) (by simp; omega) ?_; intro v' w9 hown9 hgrow9 _ hloc9; obtain ⟨A', c', rfl⟩ := own_form hown9; have hb5 := (HP8.out.blk.alloc _).grown hgrow9 (HV1.out ▸ (HP8.out.notLow HP8.out.words).1); have f5 := hb5.frozen 0; have c5 := hb5.cell 0; have l5 := hb5.lt; simp only [List.getElem?_toArray, List.getElem?_cons_zero] at c5)
    obtain ⟨hP9, hK9⟩ := HP8.out.word (x := ew) ((Below.refl w8.heap.size w8).alloc (Nat.le_refl _) (.cells #[.int .u32 ew] 22)) hown9 (HV1.out ▸ hgrow9) (HV1.out ▸ hloc9)
    rw [HPO.out]
    exact ⟨rfl, _, _, hP9, HK8.out.trans hK9⟩
  · have HPO := Lib.hid (HPOST.out.trans (by rw [if_neg hte]))
    have hem : tb.toList.isEmpty = false := by
      rw [Lib.toList_data, ← HTB.out]
      cases tl with
      | nil => exact absurd rfl hte
      | cons => rfl
    clear hte
    have hown2 := HP5.out.jumps
    rw [HV2.out] at hown2
    have hcp : p.jumps.length ≤ 512 := by omega
    have HBC := Lib.hid (fun X (hX : Below (w4.alloc (.cells #[.int .i64 vo, .int .i64 va, .int .i64 vb, .int .i64 vm] 38)).heap.size (w4.alloc (.cells #[.int .i64 vo, .int .i64 va, .int .i64 vb, .int .i64 vm] 38)) X) => HP5.out.below hX)
    have HXC := Lib.hid (fun X (hX : Below (w4.alloc (.cells #[.int .i64 vo, .int .i64 va, .int .i64 vb, .int .i64 vm] 38)).heap.size (w4.alloc (.cells #[.int .i64 vo, .int .i64 va, .int .i64 vb, .int .i64 vm] 38)) X) => HX5.out.below hX HX5.out.lt)
    have HO2 := Lib.hid (show w4.ownsRow base 112 7 (.slice A2 p.jumps.length c2) p.jumps.length (p.jumps.flatMap JmpS.cells) from HV2.out ▸ HP4.out.jumps)
    go_upto_region 17 with (fail)
    generalize hW5 : w4.alloc (.cells #[.int .i64 vo, .int .i64 va, .int .i64 vb, .int .i64 vm] 38) = W5 at *
    have hxb : w4.heap.size < W5.heap.size := HX5.out.lt
    have HXB := Lib.hid (fun X (hX : Below W5.heap.size W5 X) => show some w4.heap.size ≠ (Value.slice A2 p.jumps.length c2).ownBlock from fun e => by
      obtain ⟨_, o, ho, _⟩ := own_row HO2.out _ e.symm
      have := (Array.getElem?_eq_some_iff.1 ho).1
      omega)
    clear hW5
    have HLB := Lib.hid HP5.out.lb
    have hpx : pb ≠ w4.heap.size := by have := HP4.out.blk.lt; omega
    generalize w4.heap.size = xb at *
    have HBR := Lib.hid (Below.refl W5.heap.size W5)
    have HKP := Lib.hid (fun X (hX : Below W5.heap.size W5 X) => show X.cell? ⟨pb, 0, none⟩ = some (.slice A1 p.words.length c1) ∧ X.cell? ⟨pb, 2, none⟩ = some (.slice A2 p.jumps.length c2) ∧ X.cell? ⟨xb, 0, none⟩ = some (.int .i64 vo) ∧ X.cell? ⟨xb, 1, none⟩ = some (.int .i64 va) ∧ X.cell? ⟨xb, 2, none⟩ = some (.int .i64 vb) ∧ X.cell? ⟨xb, 3, none⟩ = some (.int .i64 vm) ∧ X.frozen? ⟨pb, 2, none⟩ = false ∧ pb < X.heap.size from by
      have h1 := HBC.out X hX
      have d0 := h1.blk.cell 0
      have d2 := h1.blk.cell 2
      simp only [List.getElem?_toArray, List.getElem?_cons_zero, List.getElem?_cons_succ] at d0 d2
      rw [HV1.out] at d0
      rw [HV2.out] at d2
      obtain ⟨y0, y1, y2, y3, _⟩ := ccells (HXC.out X hX)
      exact ⟨d0, d2, y0, y1, y2, y3, h1.blk.frozen 2, h1.blk.lt⟩)
    have HKQ := Lib.hid (fun X Y (hX : Below W5.heap.size W5 X) (hg : X.grownBy Y (Value.slice A2 p.jumps.length c2).ownBlock) => show Y.cell? ⟨pb, 0, none⟩ = some (.slice A1 p.words.length c1) ∧ Y.cell? ⟨pb, 2, none⟩ = some (.slice A2 p.jumps.length c2) ∧ Y.cell? ⟨xb, 0, none⟩ = some (.int .i64 vo) ∧ Y.cell? ⟨xb, 1, none⟩ = some (.int .i64 va) ∧ Y.cell? ⟨xb, 2, none⟩ = some (.int .i64 vb) ∧ Y.cell? ⟨xb, 3, none⟩ = some (.int .i64 vm) ∧ Y.frozen? ⟨pb, 2, none⟩ = false ∧ pb < Y.heap.size from by
      have h1 := HBC.out X hX
      have h2 := h1.blk.grown hg (by have := (h1.notLow h1.jumps).1; rw [HV2.out] at this; exact this)
      have d0 := h2.cell 0
      have d2 := h2.cell 2
      simp only [List.getElem?_toArray, List.getElem?_cons_zero, List.getElem?_cons_succ] at d0 d2
      rw [HV1.out] at d0
      rw [HV2.out] at d2
      obtain ⟨y0, y1, y2, y3, _⟩ := ccells ((HXC.out X hX).grown hg (HXB.out X hX))
      exact ⟨d0, d2, y0, y1, y2, y3, h2.frozen 2, h2.lt⟩)
    clear b0 b2 blt f0 f2 x0 x1 x2 x3 xlt
    obtain ⟨c05, c25, x05, x15, x25, x35, f25, l25⟩ := HKP.out _ HBR.out
    have HFIN := Lib.hid (fun (g cap : Nat) (w6 : World) (hown : w6.ownsRow base 112 7 (.slice (some ⟨g, 0, none⟩) (p.jumps.length + 1) cap) (p.jumps.length + 1) (p.jumps.flatMap JmpS.cells ++ [.int .i64 p.words.length, .int .i64 vo, .int .i64 va, .int .i64 vb, .int .i64 vm, .string tb, .int .i64 line])) (hg : ((W5.alloc (.cells #[.int .i64 p.words.length, .int .i64 vo, .int .i64 va, .int .i64 vb, .int .i64 vm, .string tb, .int .i64 line] 112)).drew).grownBy w6 (Value.slice A2 p.jumps.length c2).ownBlock) (hat : (Value.slice A2 p.jumps.length c2).ownBlock = some g ∨ g = W5.heap.size + 1) => show ∃ v', PgAt (w6.setCell ⟨pb, 2, none⟩ (.slice (some ⟨g, 0, none⟩) (p.jumps.length + 1) cap)) base pb mb ⟨p.words, p.labs, p.jumps ++ [⟨p.words.length, ⟨vo, va, vb, vm⟩, tl, line⟩]⟩ v1 v' ∧ KqS (SLow pb mb) base W5 (w6.setCell ⟨pb, 2, none⟩ (.slice (some ⟨g, 0, none⟩) (p.jumps.length + 1) cap)) ∧ Blk (w6.setCell ⟨pb, 2, none⟩ (.slice (some ⟨g, 0, none⟩) (p.jumps.length + 1) cap)) xb 38 #[.int .i64 vo, .int .i64 va, .int .i64 vb, .int .i64 vm] from by
      have hX : Below W5.heap.size W5 ((W5.alloc (.cells #[.int .i64 p.words.length, .int .i64 vo, .int .i64 va, .int .i64 vb, .int .i64 vm, .string tb, .int .i64 line] 112)).drew) := (bl_new HBR.out _).drew
      have hc : JmpS.cells ⟨p.words.length, ⟨vo, va, vb, vm⟩, tl, line⟩ = [.int .i64 p.words.length, .int .i64 vo, .int .i64 va, .int .i64 vb, .int .i64 vm, .string tb, .int .i64 line] := by
        rw [← HTB.out]; rfl
      obtain ⟨h1, h2⟩ := HP5.out.jump (j := ⟨p.words.length, ⟨vo, va, vb, vm⟩, tl, line⟩) hX (by rw [hc]; exact hown) (by rw [HV2.out]; exact hg) (by
        rw [HV2.out]
        rcases hat with h | h
        · exact .inl h.symm
        · refine .inr ?_
          show some g = _
          rw [h]
          simp)
      exact ⟨_, h1, h2, (((HXC.out _ hX).grown hg (HXB.out _ hX)).far (by simpa using hpx.symm) _)⟩)
    go_cut [] from 97 to 114 (fun w7 => ∃ v', PgAt w7 base pb mb ⟨p.words, p.labs, p.jumps ++ [⟨p.words.length, ⟨vo, va, vb, vm⟩, tl, line⟩]⟩ v1 v' ∧ KqS (SLow pb mb) base W5 w7 ∧ Blk w7 xb 38 #[.int .i64 vo, .int .i64 va, .int .i64 vb, .int .i64 vm])
    case first =>
      -- REGION17
      refine wp_region_any (by kernel_rfl) ?_
      change wpAny _ _ _ _ _ _ _ (World.drew _)
      refine wpAny_take (i := 0) (v := ?_) rfl (by kernel_rfl) (by kernel_rfl) (by kernel_rfl) (fun _ _ _ h => h) (Or.inl ⟨by rfl, ?_⟩) ?_
      rotate_left 1
      · intro w
        go_simp
        all_goals with_reducible rfl
      refine wpAny_take (i := 1) (v := ?_) rfl (by kernel_rfl) (by kernel_rfl) (by kernel_rfl) (fun _ _ _ h => h) (Or.inl ⟨by rfl, ?_⟩) ?_
      rotate_left 1
      · intro w
        go_simp
        all_goals with_reducible rfl
      refine wpAny_take (i := 2) (v := ?_) rfl (by kernel_rfl) (by kernel_rfl) (by kernel_rfl) (fun _ _ _ h => h) (Or.inl ⟨by rfl, ?_⟩) ?_
      rotate_left 1
      · intro w
        go_simp
        all_goals with_reducible rfl
      refine wpAny_take (i := 3) (v := ?_) rfl (by kernel_rfl) (by kernel_rfl) (by kernel_rfl) (fun _ _ _ h => h) (Or.inl ⟨by rfl, ?_⟩) ?_
      rotate_left 1
      · intro w
        go_simp
        all_goals with_reducible rfl
      refine wpAny_take (i := 5) (v := ?_) rfl (by kernel_rfl) (by kernel_rfl) (by kernel_rfl) (fun _ _ _ h => h) (Or.inl ⟨by rfl, ?_⟩) ?_
      rotate_left 1
      · intro w
        go_simp
        all_goals with_reducible rfl
      refine wpAny_take (i := 6) (v := ?_) rfl (by kernel_rfl) (by kernel_rfl) (by kernel_rfl) (fun _ _ _ h => h) (Or.inl ⟨by rfl, ?_⟩) ?_
      rotate_left 1
      · intro w
        go_simp
        all_goals with_reducible rfl
      refine wpAny_take (i := 7) (v := ?_) rfl (by kernel_rfl) (by kernel_rfl) (by kernel_rfl) (fun _ _ _ h => h) (Or.inl ⟨by rfl, ?_⟩) ?_
      rotate_left 1
      · intro w
        go_simp
        all_goals with_reducible rfl
      refine wpAny_take (i := 11) (v := ?_) rfl (by kernel_rfl) (by kernel_rfl) (by kernel_rfl) (fun _ _ _ h => h) (Or.inl ⟨by rfl, ?_⟩) ?_
      rotate_left 1
      · intro w
        go_simp
        all_goals with_reducible rfl
      refine wpAny_take (i := 12) (v := ?_) rfl (by kernel_rfl) (by kernel_rfl) (by kernel_rfl) (fun _ _ _ h => h) (Or.inl ⟨by rfl, ?_⟩) ?_
      rotate_left 1
      · intro w
        go_simp
        all_goals with_reducible rfl
      refine wpAny_ready (rs := [4, 8, 10]) (by kernel_rfl) (by simp) ?_
      refine AllReady.cons rfl (fun K hK => ?_) (AllReady.cons rfl (fun K hK => ?_) (AllReady.cons rfl (fun K hK => ?_) AllReady.nil))
      · go_simp
        refine hK _ _ ?_
        clear hK K
        refine wpAny_ready (rs := [8, 10]) (by kernel_rfl) (by simp) ?_
        refine AllReady.cons rfl (fun K hK => ?_) (AllReady.cons rfl (fun K hK => ?_) AllReady.nil)
        · go_simp
          refine hK _ _ ?_
          clear hK K
          refine wpAny_take (i := 9) (v := ?_) rfl (by kernel_rfl) (by kernel_rfl) (by kernel_rfl) (fun _ _ _ h => h) (Or.inl ⟨by rfl, ?_⟩) ?_
          rotate_left 1
          · intro w
            go_simp
            all_goals with_reducible rfl
          refine wpAny_ready (rs := [10]) (by kernel_rfl) (by simp) ?_
          refine AllReady.cons rfl (fun K hK => ?_) AllReady.nil
          go_simp
          refine hK _ _ ?_
          clear hK K
          refine wpAny_take (i := 13) (v := ?_) rfl (by kernel_rfl) (by kernel_rfl) (by kernel_rfl) (fun _ _ _ h => h) (Or.inl ⟨by rfl, ?_⟩) ?_
          rotate_left 1
          · intro w
            go_simp
            all_goals with_reducible rfl
          refine wpAny_ready (rs := [14]) (by kernel_rfl) (by simp) ?_
          refine AllReady.cons rfl (fun K hK => ?_) AllReady.nil
          go_simp
          refine hK _ _ ?_
          clear hK K
          refine wpAny_ready (rs := [15]) (by kernel_rfl) (by simp) ?_
          refine AllReady.cons rfl (fun K hK => ?_) AllReady.nil
          refine step_append_lies _ (by rfl) _ _ 104 (by rfl) base 112 i1 _ 7 64 Tryd.underlying104 hi' hz0' hz1' hz2' rfl (by decide) (.slice A2 p.jumps.length c2) p.jumps.length (p.jumps.flatMap JmpS.cells) (by rfl) (hown2.alloc _) ⟨W5.heap.size, 0, none⟩ 1 1 [.int .i64 p.words.length, .int .i64 vo, .int .i64 va, .int .i64 vb, .int .i64 vm, .string tb, .int .i64 line] (by rfl) (by rfl) (World.news_of_block (heap_alloc_new W5 _)) (by simp [Value.oneCell']) (by omega) (by unfold maxLen; omega) (by omega) (by simp; have := HLB.out; omega) (W5.heap.size + 1) (by simp) ?_
          intro g cap w6 hown6 hgrow6 hat6 hlt6
          have h6 := HKQ.out _ _ (bl_new HBR.out _).drew hgrow6
          have c26 := h6.2.1
          have f26 := h6.2.2.2.2.2.2.1
          have l26 := h6.2.2.2.2.2.2.2
          clear h6
          refine hK _ _ ?_
          clear hK K
          refine wpAny_ready (rs := [16]) (by kernel_rfl) (by simp) ?_
          refine AllReady.cons rfl (fun K hK => ?_) AllReady.nil
          go_simp
          refine hK _ _ ?_
          clear hK K
          refine wpAny_ready (rs := [17]) (by kernel_rfl) (by simp) ?_
          refine AllReady.cons rfl (fun K hK => ?_) AllReady.nil
          go_simp
          refine hK _ _ ?_
          clear hK K
          refine wpAny_ready (rs := [18]) (by kernel_rfl) (by simp) ?_
          refine AllReady.cons rfl (fun K hK => ?_) AllReady.nil
          go_simp
          refine hK _ _ ?_
          clear hK K
          refine wpAny_done (by kernel_rfl) ?_ _
          go_wp2_with fail
          go_meet
          exact HFIN.out _ _ _ hown6 hgrow6 hat6
        · go_simp
          refine hK _ _ ?_
          clear hK K
          refine wpAny_ready (rs := [8]) (by kernel_rfl) (by simp) ?_
          refine AllReady.cons rfl (fun K hK => ?_) AllReady.nil
          go_simp
          refine hK _ _ ?_
          clear hK K
          refine wpAny_take (i := 9) (v := ?_) rfl (by kernel_rfl) (by kernel_rfl) (by kernel_rfl) (fun _ _ _ h => h) (Or.inl ⟨by rfl, ?_⟩) ?_
          rotate_left 1
          · intro w
            go_simp
            all_goals with_reducible rfl
          refine wpAny_take (i := 13) (v := ?_) rfl (by kernel_rfl) (by kernel_rfl) (by kernel_rfl) (fun _ _ _ h => h) (Or.inl ⟨by rfl, ?_⟩) ?_
          rotate_left 1
          · intro w
            go_simp
            all_goals with_reducible rfl
          refine wpAny_ready (rs := [14]) (by kernel_rfl) (by simp) ?_
          refine AllReady.cons rfl (fun K hK => ?_) AllReady.nil
          go_simp
          refine hK _ _ ?_
          clear hK K
          refine wpAny_ready (rs := [15]) (by kernel_rfl) (by simp) ?_
          refine AllReady.cons rfl (fun K hK => ?_) AllReady.nil
          refine step_append_lies _ (by rfl) _ _ 104 (by rfl) base 112 i1 _ 7 64 Tryd.underlying104 hi' hz0' hz1' hz2' rfl (by decide) (.slice A2 p.jumps.length c2) p.jumps.length (p.jumps.flatMap JmpS.cells) (by rfl) (hown2.alloc _) ⟨W5.heap.size, 0, none⟩ 1 1 [.int .i64 p.words.length, .int .i64 vo, .int .i64 va, .int .i64 vb, .int .i64 vm, .string tb, .int .i64 line] (by rfl) (by rfl) (World.news_of_block (heap_alloc_new W5 _)) (by simp [Value.oneCell']) (by omega) (by unfold maxLen; omega) (by omega) (by simp; have := HLB.out; omega) (W5.heap.size + 1) (by simp) ?_
          intro g cap w6 hown6 hgrow6 hat6 hlt6
          have h6 := HKQ.out _ _ (bl_new HBR.out _).drew hgrow6
          have c26 := h6.2.1
          have f26 := h6.2.2.2.2.2.2.1
          have l26 := h6.2.2.2.2.2.2.2
          clear h6
          refine hK _ _ ?_
          clear hK K
          refine wpAny_ready (rs := [16]) (by kernel_rfl) (by simp) ?_
          refine AllReady.cons rfl (fun K hK => ?_) AllReady.nil
          go_simp
          refine hK _ _ ?_
          clear hK K
          refine wpAny_ready (rs := [17]) (by kernel_rfl) (by simp) ?_
          refine AllReady.cons rfl (fun K hK => ?_) AllReady.nil
          go_simp
          refine hK _ _ ?_
          clear hK K
          refine wpAny_ready (rs := [18]) (by kernel_rfl) (by simp) ?_
          refine AllReady.cons rfl (fun K hK => ?_) AllReady.nil
          go_simp
          refine hK _ _ ?_
          clear hK K
          refine wpAny_done (by kernel_rfl) ?_ _
          go_wp2_with fail
          go_meet
          exact HFIN.out _ _ _ hown6 hgrow6 hat6
      · go_simp
        refine hK _ _ ?_
        clear hK K
        refine wpAny_take (i := 9) (v := ?_) rfl (by kernel_rfl) (by kernel_rfl) (by kernel_rfl) (fun _ _ _ h => h) (Or.inl ⟨by rfl, ?_⟩) ?_
        rotate_left 1
        · intro w
          go_simp
          all_goals with_reducible rfl
        refine wpAny_ready (rs := [4, 10]) (by kernel_rfl) (by simp) ?_
        refine AllReady.cons rfl (fun K hK => ?_) (AllReady.cons rfl (fun K hK => ?_) AllReady.nil)
        · go_simp
          refine hK _ _ ?_
          clear hK K
          refine wpAny_ready (rs := [10]) (by kernel_rfl) (by simp) ?_
          refine AllReady.cons rfl (fun K hK => ?_) AllReady.nil
          go_simp
          refine hK _ _ ?_
          clear hK K
          refine wpAny_take (i := 13) (v := ?_) rfl (by kernel_rfl) (by kernel_rfl) (by kernel_rfl) (fun _ _ _ h => h) (Or.inl ⟨by rfl, ?_⟩) ?_
          rotate_left 1
          · intro w
            go_simp
            all_goals with_reducible rfl
          refine wpAny_ready (rs := [14]) (by kernel_rfl) (by simp) ?_
          refine AllReady.cons rfl (fun K hK => ?_) AllReady.nil
          go_simp
          refine hK _ _ ?_
          clear hK K
          refine wpAny_ready (rs := [15]) (by kernel_rfl) (by simp) ?_
          refine AllReady.cons rfl (fun K hK => ?_) AllReady.nil
          refine step_append_lies _ (by rfl) _ _ 104 (by rfl) base 112 i1 _ 7 64 Tryd.underlying104 hi' hz0' hz1' hz2' rfl (by decide) (.slice A2 p.jumps.length c2) p.jumps.length (p.jumps.flatMap JmpS.cells) (by rfl) (hown2.alloc _) ⟨W5.heap.size, 0, none⟩ 1 1 [.int .i64 p.words.length, .int .i64 vo, .int .i64 va, .int .i64 vb, .int .i64 vm, .string tb, .int .i64 line] (by rfl) (by rfl) (World.news_of_block (heap_alloc_new W5 _)) (by simp [Value.oneCell']) (by omega) (by unfold maxLen; omega) (by omega) (by simp; have := HLB.out; omega) (W5.heap.size + 1) (by simp) ?_
          intro g cap w6 hown6 hgrow6 hat6 hlt6
          have h6 := HKQ.out _ _ (bl_new HBR.out _).drew hgrow6
          have c26 := h6.2.1
          have f26 := h6.2.2.2.2.2.2.1
          have l26 := h6.2.2.2.2.2.2.2
          clear h6
          refine hK _ _ ?_
          clear hK K
          refine wpAny_ready (rs := [16]) (by kernel_rfl) (by simp) ?_
          refine AllReady.cons rfl (fun K hK => ?_) AllReady.nil
          go_simp
          refine hK _ _ ?_
          clear hK K
          refine wpAny_ready (rs := [17]) (by kernel_rfl) (by simp) ?_
          refine AllReady.cons rfl (fun K hK => ?_) AllReady.nil
          go_simp
          refine hK _ _ ?_
          clear hK K
          refine wpAny_ready (rs := [18]) (by kernel_rfl) (by simp) ?_
          refine AllReady.cons rfl (fun K hK => ?_) AllReady.nil
          go_simp
          refine hK _ _ ?_
          clear hK K
          refine wpAny_done (by kernel_rfl) ?_ _
          go_wp2_with fail
          go_meet
          exact HFIN.out _ _ _ hown6 hgrow6 hat6
        · go_simp
          refine hK _ _ ?_
          clear hK K
          refine wpAny_take (i := 13) (v := ?_) rfl (by kernel_rfl) (by kernel_rfl) (by kernel_rfl) (fun _ _ _ h => h) (Or.inl ⟨by rfl, ?_⟩) ?_
          rotate_left 1
          · intro w
            go_simp
            all_goals with_reducible rfl
          refine wpAny_ready (rs := [4, 14]) (by kernel_rfl) (by simp) ?_
          refine AllReady.cons rfl (fun K hK => ?_) (AllReady.cons rfl (fun K hK => ?_) AllReady.nil)
          · go_simp
            refine hK _ _ ?_
            clear hK K
            refine wpAny_ready (rs := [14]) (by kernel_rfl) (by simp) ?_
            refine AllReady.cons rfl (fun K hK => ?_) AllReady.nil
            go_simp
            refine hK _ _ ?_
            clear hK K
            refine wpAny_ready (rs := [15]) (by kernel_rfl) (by simp) ?_
            refine AllReady.cons rfl (fun K hK => ?_) AllReady.nil
            refine step_append_lies _ (by rfl) _ _ 104 (by rfl) base 112 i1 _ 7 64 Tryd.underlying104 hi' hz0' hz1' hz2' rfl (by decide) (.slice A2 p.jumps.length c2) p.jumps.length (p.jumps.flatMap JmpS.cells) (by rfl) (hown2.alloc _) ⟨W5.heap.size, 0, none⟩ 1 1 [.int .i64 p.words.length, .int .i64 vo, .int .i64 va, .int .i64 vb, .int .i64 vm, .string tb, .int .i64 line] (by rfl) (by rfl) (World.news_of_block (heap_alloc_new W5 _)) (by simp [Value.oneCell']) (by omega) (by unfold maxLen; omega) (by omega) (by simp; have := HLB.out; omega) (W5.heap.size + 1) (by simp) ?_
            intro g cap w6 hown6 hgrow6 hat6 hlt6
            have h6 := HKQ.out _ _ (bl_new HBR.out _).drew hgrow6
            have c26 := h6.2.1
            have f26 := h6.2.2.2.2.2.2.1
            have l26 := h6.2.2.2.2.2.2.2
            clear h6
            refine hK _ _ ?_
            clear hK K
            refine wpAny_ready (rs := [16]) (by kernel_rfl) (by simp) ?_
            refine AllReady.cons rfl (fun K hK => ?_) AllReady.nil
            go_simp
            refine hK _ _ ?_
            clear hK K
            refine wpAny_ready (rs := [17]) (by kernel_rfl) (by simp) ?_
            refine AllReady.cons rfl (fun K hK => ?_) AllReady.nil
            go_simp
            refine hK _ _ ?_
            clear hK K
            refine wpAny_ready (rs := [18]) (by kernel_rfl) (by simp) ?_
            refine AllReady.cons rfl (fun K hK => ?_) AllReady.nil
            go_simp
            refine hK _ _ ?_
            clear hK K
            refine wpAny_done (by kernel_rfl) ?_ _
            go_wp2_with fail
            go_meet
            exact HFIN.out _ _ _ hown6 hgrow6 hat6
          · go_simp
            refine hK _ _ ?_
            clear hK K
            refine wpAny_ready (rs := [4]) (by kernel_rfl) (by simp) ?_
            refine AllReady.cons rfl (fun K hK => ?_) AllReady.nil
            go_simp
            refine hK _ _ ?_
            clear hK K
            refine wpAny_ready (rs := [15]) (by kernel_rfl) (by simp) ?_
            refine AllReady.cons rfl (fun K hK => ?_) AllReady.nil
            refine step_append_lies _ (by rfl) _ _ 104 (by rfl) base 112 i1 _ 7 64 Tryd.underlying104 hi' hz0' hz1' hz2' rfl (by decide) (.slice A2 p.jumps.length c2) p.jumps.length (p.jumps.flatMap JmpS.cells) (by rfl) (hown2.alloc _) ⟨W5.heap.size, 0, none⟩ 1 1 [.int .i64 p.words.length, .int .i64 vo, .int .i64 va, .int .i64 vb, .int .i64 vm, .string tb, .int .i64 line] (by rfl) (by rfl) (World.news_of_block (heap_alloc_new W5 _)) (by simp [Value.oneCell']) (by omega) (by unfold maxLen; omega) (by omega) (by simp; have := HLB.out; omega) (W5.heap.size + 1) (by simp) ?_
            intro g cap w6 hown6 hgrow6 hat6 hlt6
            have h6 := HKQ.out _ _ (bl_new HBR.out _).drew hgrow6
            have c26 := h6.2.1
            have f26 := h6.2.2.2.2.2.2.1
            have l26 := h6.2.2.2.2.2.2.2
            clear h6
            refine hK _ _ ?_
            clear hK K
            refine wpAny_ready (rs := [16]) (by kernel_rfl) (by simp) ?_
            refine AllReady.cons rfl (fun K hK => ?_) AllReady.nil
            go_simp
            refine hK _ _ ?_
            clear hK K
            refine wpAny_ready (rs := [17]) (by kernel_rfl) (by simp) ?_
            refine AllReady.cons rfl (fun K hK => ?_) AllReady.nil
            go_simp
            refine hK _ _ ?_
            clear hK K
            refine wpAny_ready (rs := [18]) (by kernel_rfl) (by simp) ?_
            refine AllReady.cons rfl (fun K hK => ?_) AllReady.nil
            go_simp
            refine hK _ _ ?_
            clear hK K
            refine wpAny_done (by kernel_rfl) ?_ _
            go_wp2_with fail
            go_meet
            exact HFIN.out _ _ _ hown6 hgrow6 hat6
      · go_simp
        refine hK _ _ ?_
        clear hK K
        refine wpAny_ready (rs := [4, 8]) (by kernel_rfl) (by simp) ?_
        refine AllReady.cons rfl (fun K hK => ?_) (AllReady.cons rfl (fun K hK => ?_) AllReady.nil)
        · go_simp
          refine hK _ _ ?_
          clear hK K
          refine wpAny_ready (rs := [8]) (by kernel_rfl) (by simp) ?_
          refine AllReady.cons rfl (fun K hK => ?_) AllReady.nil
          go_simp
          refine hK _ _ ?_
          clear hK K
          refine wpAny_take (i := 9) (v := ?_) rfl (by kernel_rfl) (by kernel_rfl) (by kernel_rfl) (fun _ _ _ h => h) (Or.inl ⟨by rfl, ?_⟩) ?_
          rotate_left 1
          · intro w
            go_simp
            all_goals with_reducible rfl
          refine wpAny_take (i := 13) (v := ?_) rfl (by kernel_rfl) (by kernel_rfl) (by kernel_rfl) (fun _ _ _ h => h) (Or.inl ⟨by rfl, ?_⟩) ?_
          rotate_left 1
          · intro w
            go_simp
            all_goals with_reducible rfl
          refine wpAny_ready (rs := [14]) (by kernel_rfl) (by simp) ?_
          refine AllReady.cons rfl (fun K hK => ?_) AllReady.nil
          go_simp
          refine hK _ _ ?_
          clear hK K
          refine wpAny_ready (rs := [15]) (by kernel_rfl) (by simp) ?_
          refine AllReady.cons rfl (fun K hK => ?_) AllReady.nil
          refine step_append_lies _ (by rfl) _ _ 104 (by rfl) base 112 i1 _ 7 64 Tryd.underlying104 hi' hz0' hz1' hz2' rfl (by decide) (.slice A2 p.jumps.length c2) p.jumps.length (p.jumps.flatMap JmpS.cells) (by rfl) (hown2.alloc _) ⟨W5.heap.size, 0, none⟩ 1 1 [.int .i64 p.words.length, .int .i64 vo, .int .i64 va, .int .i64 vb, .int .i64 vm, .string tb, .int .i64 line] (by rfl) (by rfl) (World.news_of_block (heap_alloc_new W5 _)) (by simp [Value.oneCell']) (by omega) (by unfold maxLen; omega) (by omega) (by simp; have := HLB.out; omega) (W5.heap.size + 1) (by simp) ?_
          intro g cap w6 hown6 hgrow6 hat6 hlt6
          have h6 := HKQ.out _ _ (bl_new HBR.out _).drew hgrow6
          have c26 := h6.2.1
          have f26 := h6.2.2.2.2.2.2.1
          have l26 := h6.2.2.2.2.2.2.2
          clear h6
          refine hK _ _ ?_
          clear hK K
          refine wpAny_ready (rs := [16]) (by kernel_rfl) (by simp) ?_
          refine AllReady.cons rfl (fun K hK => ?_) AllReady.nil
          go_simp
          refine hK _ _ ?_
          clear hK K
          refine wpAny_ready (rs := [17]) (by kernel_rfl) (by simp) ?_
          refine AllReady.cons rfl (fun K hK => ?_) AllReady.nil
          go_simp
          refine hK _ _ ?_
          clear hK K
          refine wpAny_ready (rs := [18]) (by kernel_rfl) (by simp) ?_
          refine AllReady.cons rfl (fun K hK => ?_) AllReady.nil
          go_simp
          refine hK _ _ ?_
          clear hK K
          refine wpAny_done (by kernel_rfl) ?_ _
          go_wp2_with fail
          go_meet
          exact HFIN.out _ _ _ hown6 hgrow6 hat6
        · go_simp
          refine hK _ _ ?_
          clear hK K
          refine wpAny_take (i := 9) (v := ?_) rfl (by kernel_rfl) (by kernel_rfl) (by kernel_rfl) (fun _ _ _ h => h) (Or.inl ⟨by rfl, ?_⟩) ?_
          rotate_left 1
          · intro w
            go_simp
            all_goals with_reducible rfl
          refine wpAny_take (i := 13) (v := ?_) rfl (by kernel_rfl) (by kernel_rfl) (by kernel_rfl) (fun _ _ _ h => h) (Or.inl ⟨by rfl, ?_⟩) ?_
          rotate_left 1
          · intro w
            go_simp
            all_goals with_reducible rfl
          refine wpAny_ready (rs := [4, 14]) (by kernel_rfl) (by simp) ?_
          refine AllReady.cons rfl (fun K hK => ?_) (AllReady.cons rfl (fun K hK => ?_) AllReady.nil)
          · go_simp
            refine hK _ _ ?_
            clear hK K
            refine wpAny_ready (rs := [14]) (by kernel_rfl) (by simp) ?_
            refine AllReady.cons rfl (fun K hK => ?_) AllReady.nil
            go_simp
            refine hK _ _ ?_
            clear hK K
            refine wpAny_ready (rs := [15]) (by kernel_rfl) (by simp) ?_
            refine AllReady.cons rfl (fun K hK => ?_) AllReady.nil
            refine step_append_lies _ (by rfl) _ _ 104 (by rfl) base 112 i1 _ 7 64 Tryd.underlying104 hi' hz0' hz1' hz2' rfl (by decide) (.slice A2 p.jumps.length c2) p.jumps.length (p.jumps.flatMap JmpS.cells) (by rfl) (hown2.alloc _) ⟨W5.heap.size, 0, none⟩ 1 1 [.int .i64 p.words.length, .int .i64 vo, .int .i64 va, .int .i64 vb, .int .i64 vm, .string tb, .int .i64 line] (by rfl) (by rfl) (World.news_of_block (heap_alloc_new W5 _)) (by simp [Value.oneCell']) (by omega) (by unfold maxLen; omega) (by omega) (by simp; have := HLB.out; omega) (W5.heap.size + 1) (by simp) ?_
            intro g cap w6 hown6 hgrow6 hat6 hlt6
            have h6 := HKQ.out _ _ (bl_new HBR.out _).drew hgrow6
            have c26 := h6.2.1
            have f26 := h6.2.2.2.2.2.2.1
            have l26 := h6.2.2.2.2.2.2.2
            clear h6
            refine hK _ _ ?_
            clear hK K
            refine wpAny_ready (rs := [16]) (by kernel_rfl) (by simp) ?_
            refine AllReady.cons rfl (fun K hK => ?_) AllReady.nil
            go_simp
            refine hK _ _ ?_
            clear hK K
            refine wpAny_ready (rs := [17]) (by kernel_rfl) (by simp) ?_
            refine AllReady.cons rfl (fun K hK => ?_) AllReady.nil
            go_simp
            refine hK _ _ ?_
            clear hK K
            refine wpAny_ready (rs := [18]) (by kernel_rfl) (by simp) ?_
            refine AllReady.cons rfl (fun K hK => ?_) AllReady.nil
            go_simp
            refine hK _ _ ?_
            clear hK K
            refine wpAny_done (by kernel_rfl) ?_ _
            go_wp2_with fail
            go_meet
            exact HFIN.out _ _ _ hown6 hgrow6 hat6
          · go_simp
            refine hK _ _ ?_
            clear hK K
            refine wpAny_ready (rs := [4]) (by kernel_rfl) (by simp) ?_
            refine AllReady.cons rfl (fun K hK => ?_) AllReady.nil
            go_simp
            refine hK _ _ ?_
            clear hK K
            refine wpAny_ready (rs := [15]) (by kernel_rfl) (by simp) ?_
            refine AllReady.cons rfl (fun K hK => ?_) AllReady.nil
            refine step_append_lies _ (by rfl) _ _ 104 (by rfl) base 112 i1 _ 7 64 Tryd.underlying104 hi' hz0' hz1' hz2' rfl (by decide) (.slice A2 p.jumps.length c2) p.jumps.length (p.jumps.flatMap JmpS.cells) (by rfl) (hown2.alloc _) ⟨W5.heap.size, 0, none⟩ 1 1 [.int .i64 p.words.length, .int .i64 vo, .int .i64 va, .int .i64 vb, .int .i64 vm, .string tb, .int .i64 line] (by rfl) (by rfl) (World.news_of_block (heap_alloc_new W5 _)) (by simp [Value.oneCell']) (by omega) (by unfold maxLen; omega) (by omega) (by simp; have := HLB.out; omega) (W5.heap.size + 1) (by simp) ?_
            intro g cap w6 hown6 hgrow6 hat6 hlt6
            have h6 := HKQ.out _ _ (bl_new HBR.out _).drew hgrow6
            have c26 := h6.2.1
            have f26 := h6.2.2.2.2.2.2.1
            have l26 := h6.2.2.2.2.2.2.2
            clear h6
            refine hK _ _ ?_
            clear hK K
            refine wpAny_ready (rs := [16]) (by kernel_rfl) (by simp) ?_
            refine AllReady.cons rfl (fun K hK => ?_) AllReady.nil
            go_simp
            refine hK _ _ ?_
            clear hK K
            refine wpAny_ready (rs := [17]) (by kernel_rfl) (by simp) ?_
            refine AllReady.cons rfl (fun K hK => ?_) AllReady.nil
            go_simp
            refine hK _ _ ?_
            clear hK K
            refine wpAny_ready (rs := [18]) (by kernel_rfl) (by simp) ?_
            refine AllReady.cons rfl (fun K hK => ?_) AllReady.nil
            go_simp
            refine hK _ _ ?_
            clear hK K
            refine wpAny_done (by kernel_rfl) ?_ _
            go_wp2_with fail
            go_meet
            exact HFIN.out _ _ _ hown6 hgrow6 hat6
      -- END17
    case rest =>
      obtain ⟨v3, hP7, hK7, hX7⟩ := hcut
      have HK7 := Lib.hid (((KqS.refl (SLow pb mb) base _).below HB5.out).trans hK7)
      have HP7 := Lib.hid hP7
      obtain ⟨x0, x1, x2, x3, xlt⟩ := ccells hX7
      have hL7 := laid_kq HG.out.laid HP.out HK7.out hgb
      clear hP7 hK7 hX7 c05 c25 x05 x15 x25 x35 f25 l25 hown2
      go_wp2_with fail
      refine (HEN.out _ hL7).mono ?_
      rintro e w8 ⟨rfl, hb8⟩
      have HP8 := Lib.hid (HP7.out.below hb8)
      have HK8 := Lib.hid (HK7.out.below hb8)
      clear x0 x1 x2 x3 xlt hb8 hL7
      have b0 := HP8.out.blk.cell 0
      have blt := HP8.out.blk.lt
      have f0 := HP8.out.blk.frozen 0
      simp only [List.getElem?_toArray, List.getElem?_cons_zero, List.getElem?_cons_succ] at b0
      rw [HV1.out] at b0
      have hown := HP8.out.words
      rw [HV1.out] at hown
      have hlb := HP8.out.lb
      go_wp2_with (at_builtin; refine wpList_append_own_at _ rfl _ _ 70 rfl base 22 i0 _ 1 4 Tryd.underlying70 hi hz0 hz1 hz2 rfl (by decide) _ _ _ rfl (hown.alloc _) ⟨w8.heap.size, 0, none⟩ 1 1 [.int .u32 ew] rfl rfl (cell_one_new _ _ _) (by simp [Value.oneCell']) (by unfold maxLen; omega) (by omega) (by simp; omega) ?_; intro v' w9 hown9 hgrow9 _ hloc9; obtain ⟨A', c', rfl⟩ := own_form hown9; have hb5 := (HP8.out.blk.alloc _).grown hgrow9 (HV1.out ▸ (HP8.out.notLow HP8.out.words).1); have f5 := hb5.frozen 0; have c5 := hb5.cell 0; have l5 := hb5.lt; simp only [List.getElem?_toArray, List.getElem?_cons_zero] at c5)
      obtain ⟨hP9, hK9⟩ := HP8.out.word (x := ew) ((Below.refl w8.heap.size w8).alloc (Nat.le_refl _) (.cells #[.int .u32 ew] 22)) hown9 (HV1.out ▸ hgrow9) (HV1.out ▸ hloc9)
      rw [HPO.out]
      exact ⟨rfl, _, _, hP9, HK8.out.trans hK9⟩
end
end Go.Proofs.YtoglmemmdolbmaaDoor.I
