/-
  isa's program takes a line: instructions. Condition: the tables lie as the program's text, and the library's, lay them.
-/
import Derived.Deep.CutRange
import Derived.Deep.RegionLaw
import Derived.Test.YtpikgebfeleajaaGreatDoorIsA
namespace Go.Proofs.YtpikgebfeleajaaGreatDoor.I
open Go.RowKit Go.Shelf Go.WideMaps
set_option linter.unusedVariables false
set_option linter.unusedSimpArgs false
attribute [local go_sem] Oper.semAt_some

theorem infoJ : (Tryz.prog.info? 104).map (fun i => (i.zero, i.size, i.bytes)) = some (some (.agg #[.int .i64 0, .int .i64 0, .int .i64 0, .int .i64 0, .int .i64 0, .string ⟨#[]⟩, .int .i64 0]), 7, 64) := by kernel_rfl

theorem laid_kq {W V : World} {base pb mb : Nat} {p : PgS} {v1 v2 : Value} (h : Laid W) (hP : PgAt W base pb mb p v1 v2) (hk : KqS (SLow pb mb) base W V) (hg : 4 < base) : Laid V := by
  obtain ⟨t, hb⟩ := h.forms
  refine ⟨t, hk.blk hb (fun e => ?_) hg⟩
  rcases e with e | e
  · have h1 := hP.blk
    rw [← e] at h1
    have h2 := (show W.heap[4]? = _ from hb).symm.trans h1
    injection h2 with h2
    injection h2 with h2 _
    have h3 : fArr.size = 3 := congrArg Array.size h2
    exact absurd h3 (by decide +kernel)
  · obtain ⟨D, ⟨es, clock, hm, _⟩, _⟩ := hP.labs
    rw [← e] at hm
    have h2 := (show W.heap[4]? = _ from hb).symm.trans hm
    cases h2

set_option maxRecDepth 100000 in
set_option maxHeartbeats 8000000 in
theorem take_ins {W : World} (hG : Ground W) {base pb mb : Nat} {p : PgS} {v1 v2 : Value} (h : PgAt W base pb mb p v1 v2) (s : ByteArray) (hs : s.size ≤ 1000000) (line : Int)
    (hn : cutSuf 58 s.data.toList = none) (hpre : wordP.isPrefixOf s.data.toList = false) (hbig : p.words.length < 512) (hjl : p.jumps.length ≤ p.words.length) (hgb : 4 < base) :
    Calls Tryz.prog 53 #[.pointer (some ⟨pb, 0, none⟩), .string s, .int .i64 line] W (TakeOut W base pb mb (takeP p s.data.toList line)) := by
  obtain ⟨e1, e2⟩ := cutSuf_none hn
  have HCS := Lib.hid (fun V => show Calls Tryz.prog 82 #[.string s, .string ⟨#[58]⟩] V fun e w' => e = .returned (.tuple #[.string s, .bool false]) ∧ w' = V from by
    have h1 := Tryz.strings_CutSuffix s ⟨#[58]⟩ V (by omega)
    simp only at h1
    rw [e1, e2] at h1
    exact h1)
  have HCP := Lib.hid (fun V => show Calls Tryz.prog 50 #[.string s, .string ⟨#[119, 111, 114, 100, 32]⟩] V fun e w' => e = .returned (.tuple #[.string s, .bool false]) ∧ w' = V from by
    have h1 := Tryz.strings_CutPrefix s ⟨#[119, 111, 114, 100, 32]⟩ V
    simp only at h1
    have h2 : Lib.hasPrefix s.data.toList [119, 111, 114, 100, 32] = false := hpre
    have h3 : Lib.trimPrefix s.data.toList [119, 111, 114, 100, 32] = s.data.toList := by
      unfold Lib.trimPrefix
      rw [if_neg (by rw [h2]; decide)]
    rw [h2, h3] at h1
    exact h1)
  have HSP := Lib.hid (split_any hG.max s (by omega))
  obtain ⟨ws, hws⟩ : ∃ ws, ws = pieces s.data.toList := ⟨_, rfl⟩
  rw [← hws] at HSP
  have hne : 0 < ws.length := by rw [hws]; exact List.length_pos_iff.2 (pieces_ne _)
  have hlen : ws.length ≤ 1000001 := by
    rw [hws, pieces_len]
    have := List.count_le_length (a := (32 : UInt8)) (l := s.data.toList)
    have h2 : s.data.toList.length = s.size := rfl
    omega
  have hbs : Below W.heap.size W (W.alloc (.cells (ws.map strV).toArray 9)) := (Below.refl _ _).alloc (Nat.le_refl _) _
  have HN := Lib.hid (named_any (hG.below hbs) W.heap.size ws (Blk.new _ _ _) hne hlen)
  unfold nmV at HN
  have htp : takeP p s.data.toList line = (⟨p.words ++ [encW (namedT ws).x], p.labs, if (namedT ws).lab = [] then p.jumps else p.jumps ++ [⟨p.words.length, (namedT ws).x, (namedT ws).lab, line⟩]⟩, (namedT ws).is) := by
    unfold takeP
    rw [hn, ← hws]
    simp only
    rw [if_neg (by omega), if_neg (by rw [hpre]; decide)]
  rw [htp]
  obtain ⟨tis, htis⟩ : ∃ q, (namedT ws).is = q := ⟨_, rfl⟩
  obtain ⟨tl, htl⟩ : ∃ q, (namedT ws).lab = q := ⟨_, rfl⟩
  obtain ⟨tx, htx⟩ : ∃ q, (namedT ws).x = q := ⟨_, rfl⟩
  rw [htis, htl, htx] at HN ⊢
  obtain ⟨vo, va, vb, vm⟩ := tx
  unfold Ins.cells at HN
  obtain ⟨A1, c1, hv1⟩ := own_form h.words
  obtain ⟨A2, c2, hv2⟩ := own_form h.jumps
  obtain ⟨ew, hew⟩ : ∃ q, encW ⟨vo, va, vb, vm⟩ = q := ⟨_, rfl⟩
  obtain ⟨er, her⟩ : ∃ q, errI ⟨vo, va, vb, vm⟩ = q := ⟨_, rfl⟩
  have HEN := Lib.hid (fun V (hV : Laid V) => show Calls Tryz.prog 54 #[.agg #[.int .i64 vo, .int .i64 va, .int .i64 vb, .int .i64 vm]] V fun e w' => e = .returned (.tuple #[.int .u32 ew, .int .i64 er]) ∧ Below V.heap.size V w' from by
    have h1 := encode_any hV vo va vb vm
    rw [hew, her] at h1
    exact h1)
  rw [hew]
  obtain ⟨post, hpost⟩ : ∃ post : Ending → World → Prop, post = TakeOut W base pb mb (⟨p.words ++ [ew], p.labs, if tl = [] then p.jumps else p.jumps ++ [⟨p.words.length, ⟨vo, va, vb, vm⟩, tl, line⟩]⟩, tis) := ⟨_, rfl⟩
  rw [← hpost]
  have HPOST := Lib.hid hpost
  obtain ⟨i0, hi, hz0, hz1, hz2⟩ := info_parts infoU
  obtain ⟨i1, hi', hz0', hz1', hz2'⟩ := info_parts infoJ
  have b0 := h.blk.cell 0
  have b2 := h.blk.cell 2
  have blt := h.blk.lt
  simp only [List.getElem?_toArray, List.getElem?_cons_zero, List.getElem?_cons_succ] at b0 b2
  rw [hv1] at b0
  rw [hv2] at b2
  have hwl : ¬ (512 : Int) ≤ (p.words.length : Int) := by omega
  have HP := Lib.hid h
  have HV1 := Lib.hid hv1
  have HV2 := Lib.hid hv2
  have HG := Lib.hid hG
  have HBS := Lib.hid hbs
  clear htp hpost e1 e2 hn hpre hG h hv1 hv2 hs hws hne hlen hbs htis htl htx hew her
  obtain ⟨tb, htb⟩ : ∃ tb : ByteArray, (⟨tl.toArray⟩ : ByteArray) = tb := ⟨_, rfl⟩
  rw [htb] at HN
  have HTB := Lib.hid htb
  clear htb
  go_enter Tryz.func53, Tryz.ntmps53
  go_wp2_with fail
  refine (HCS.out _).mono ?_
  rintro e w1 ⟨rfl, rfl⟩
  go_wp2_with fail
  refine (HCP.out _).mono ?_
  rintro e w2 ⟨rfl, rfl⟩
  go_wp2_with fail
  refine HSP.out.mono ?_
  rintro e w3 ⟨rfl, rfl⟩
  go_wp2_with fail
  refine HN.out.mono ?_
  rintro e w4 ⟨rfl, hb4⟩
  have hB4 := HBS.out.trans (hb4.mono HBS.out.size)
  have hP4 := HP.out.below hB4
  clear b0 b2 blt hb4 HCS HCP HSP HN HBS
  have hB5 := bl_new hB4 (.cells #[.int .i64 vo, .int .i64 va, .int .i64 vb, .int .i64 vm] 86)
  have hX5 := Blk.new w4 86 #[.int .i64 vo, .int .i64 va, .int .i64 vb, .int .i64 vm]
  have HP5 := Lib.hid (hP4.below ((Below.refl _ _).alloc (Nat.le_refl _) (.cells #[.int .i64 vo, .int .i64 va, .int .i64 vb, .int .i64 vm] 86)))
  have b0 := HP5.out.blk.cell 0
  have b2 := HP5.out.blk.cell 2
  have blt := HP5.out.blk.lt
  have f0 := HP5.out.blk.frozen 0
  have f2 := HP5.out.blk.frozen 2
  simp only [List.getElem?_toArray, List.getElem?_cons_zero, List.getElem?_cons_succ] at b0 b2
  rw [HV1.out] at b0
  rw [HV2.out] at b2
  obtain ⟨x0, x1, x2, x3, xlt⟩ := ccells hX5
  have HP4 := Lib.hid hP4
  have HB5 := Lib.hid hB5
  have HX5 := Lib.hid hX5
  clear hB5 hX5 hP4 hB4
  by_cases hte : tl = []
  · have HPO := Lib.hid (HPOST.out.trans (by rw [if_pos hte]))
    have hem : tb.toList.isEmpty = true := by rw [Lib.toList_data, ← HTB.out, hte]; rfl
    clear hte
    go_wp2_with fail
    refine (HEN.out _ (HG.out.laid.below HB5.out)).mono ?_
    rintro e w8 ⟨rfl, hb8⟩
    have HP8 := Lib.hid (HP5.out.below hb8)
    have HK8 := Lib.hid (((KqS.refl (SLow pb mb) base _).below HB5.out).below hb8)
    clear b0 b2 blt f0 f2 x0 x1 x2 x3 xlt hb8
    have b0 := HP8.out.blk.cell 0
    have blt := HP8.out.blk.lt
    have f0 := HP8.out.blk.frozen 0
    simp only [List.getElem?_toArray, List.getElem?_cons_zero, List.getElem?_cons_succ] at b0
    rw [HV1.out] at b0
    have hown := HP8.out.words
    rw [HV1.out] at hown
    have hlb := HP8.out.lb
    go_wp2_with (at_builtin; refine wpList_append_own_at _ rfl _ _ 22 rfl base 41 i0 _ 1 4 Tryz.underlying22 hi hz0 hz1 hz2 rfl (by decide) _ _ _ rfl (hown.alloc _) ⟨w8.heap.size, 0, none⟩ 1 1 [.int .u32 ew] rfl rfl (cell_one_new _ _ _) (by simp [Value.oneCell']) (by unfold maxLen; omega) (by omega) (by simp; omega) ?_; intro v' w9 hown9 hgrow9 _ hloc9; obtain ⟨A', c', rfl⟩ := own_form hown9; have hb5 := (HP8.out.blk.alloc _).grown hgrow9 (HV1.out ▸ (HP8.out.notLow HP8.out.words).1); have f5 := hb5.frozen 0; have c5 := hb5.cell 0; have l5 := hb5.lt; simp only [List.getElem?_toArray, List.getElem?_cons_zero] at c5)
    obtain ⟨hP9, hK9⟩ := HP8.out.word (x := ew) ((Below.refl w8.heap.size w8).alloc (Nat.le_refl _) (.cells #[.int .u32 ew] 41)) hown9 (HV1.out ▸ hgrow9) (HV1.out ▸ hloc9)
    rw [HPO.out]
    exact ⟨rfl, _, _, hP9, HK8.out.trans hK9⟩
  · have HPO := Lib.hid (HPOST.out.trans (by rw [if_neg hte]))
    have hem : tb.toList.isEmpty = false := by
      rw [Lib.toList_data, ← HTB.out]
      cases tl with
      | nil => exact absurd rfl hte
      | cons => rfl
    clear hte
    have hown2 := HP5.out.jumps
    rw [HV2.out] at hown2
    have hcp : p.jumps.length ≤ 512 := by omega
    have HBC := Lib.hid (fun X (hX : Below (w4.alloc (.cells #[.int .i64 vo, .int .i64 va, .int .i64 vb, .int .i64 vm] 86)).heap.size (w4.alloc (.cells #[.int .i64 vo, .int .i64 va, .int .i64 vb, .int .i64 vm] 86)) X) => HP5.out.below hX)
    have HXC := Lib.hid (fun X (hX : Below (w4.alloc (.cells #[.int .i64 vo, .int .i64 va, .int .i64 vb, .int .i64 vm] 86)).heap.size (w4.alloc (.cells #[.int .i64 vo, .int .i64 va, .int .i64 vb, .int .i64 vm] 86)) X) => HX5.out.below hX HX5.out.lt)
    have HO2 := Lib.hid (show w4.ownsRow base 104 7 (.slice A2 p.jumps.length c2) p.jumps.length (p.jumps.flatMap JmpS.cells) from HV2.out ▸ HP4.out.jumps)
    go_upto_region 17 with (fail)
    generalize hW5 : w4.alloc (.cells #[.int .i64 vo, .int .i64 va, .int .i64 vb, .int .i64 vm] 86) = W5 at *
    have hxb : w4.heap.size < W5.heap.size := HX5.out.lt
    have HXB := Lib.hid (fun X (hX : Below W5.heap.size W5 X) => show some w4.heap.size ≠ (Value.slice A2 p.jumps.length c2).ownBlock from fun e => by
      obtain ⟨_, o, ho, _⟩ := own_row HO2.out _ e.symm
      have := (Array.getElem?_eq_some_iff.1 ho).1
      omega)
    clear hW5
    have HLB := Lib.hid HP5.out.lb
    have hpx : pb ≠ w4.heap.size := by have := HP4.out.blk.lt; omega
    generalize w4.heap.size = xb at *
    have HBR := Lib.hid (Below.refl W5.heap.size W5)
    have HKP := Lib.hid (fun X (hX : Below W5.heap.size W5 X) => show X.cell? ⟨pb, 0, none⟩ = some (.slice A1 p.words.length c1) ∧ X.cell? ⟨pb, 2, none⟩ = some (.slice A2 p.jumps.length c2) ∧ X.cell? ⟨xb, 0, none⟩ = some (.int .i64 vo) ∧ X.cell? ⟨xb, 1, none⟩ = some (.int .i64 va) ∧ X.cell? ⟨xb, 2, none⟩ = some (.int .i64 vb) ∧ X.cell? ⟨xb, 3, none⟩ = some (.int .i64 vm) ∧ X.frozen? ⟨pb, 2, none⟩ = false ∧ pb < X.heap.size from by
      have h1 := HBC.out X hX
      have d0 := h1.blk.cell 0
      have d2 := h1.blk.cell 2
      simp only [List.getElem?_toArray, List.getElem?_cons_zero, List.getElem?_cons_succ] at d0 d2
      rw [HV1.out] at d0
      rw [HV2.out] at d2
      obtain ⟨y0, y1, y2, y3, _⟩ := ccells (HXC.out X hX)
      exact ⟨d0, d2, y0, y1, y2, y3, h1.blk.frozen 2, h1.blk.lt⟩)
    have HKQ := Lib.hid (fun X Y (hX : Below W5.heap.size W5 X) (hg : X.grownBy Y (Value.slice A2 p.jumps.length c2).ownBlock) => show Y.cell? ⟨pb, 0, none⟩ = some (.slice A1 p.words.length c1) ∧ Y.cell? ⟨pb, 2, none⟩ = some (.slice A2 p.jumps.length c2) ∧ Y.cell? ⟨xb, 0, none⟩ = some (.int .i64 vo) ∧ Y.cell? ⟨xb, 1, none⟩ = some (.int .i64 va) ∧ Y.cell? ⟨xb, 2, none⟩ = some (.int .i64 vb) ∧ Y.cell? ⟨xb, 3, none⟩ = some (.int .i64 vm) ∧ Y.frozen? ⟨pb, 2, none⟩ = false ∧ pb < Y.heap.size from by
      have h1 := HBC.out X hX
      have h2 := h1.blk.grown hg (by have := (h1.notLow h1.jumps).1; rw [HV2.out] at this; exact this)
      have d0 := h2.cell 0
      have d2 := h2.cell 2
      simp only [List.getElem?_toArray, List.getElem?_cons_zero, List.getElem?_cons_succ] at d0 d2
      rw [HV1.out] at d0
      rw [HV2.out] at d2
      obtain ⟨y0, y1, y2, y3, _⟩ := ccells ((HXC.out X hX).grown hg (HXB.out X hX))
      exact ⟨d0, d2, y0, y1, y2, y3, h2.frozen 2, h2.lt⟩)
    clear b0 b2 blt f0 f2 x0 x1 x2 x3 xlt
    obtain ⟨c05, c25, x05, x15, x25, x35, f25, l25⟩ := HKP.out _ HBR.out
    have HFIN := Lib.hid (fun (g cap : Nat) (w6 : World) (hown : w6.ownsRow base 104 7 (.slice (some ⟨g, 0, none⟩) (p.jumps.length + 1) cap) (p.jumps.length + 1) (p.jumps.flatMap JmpS.cells ++ [.int .i64 p.words.length, .int .i64 vo, .int .i64 va, .int .i64 vb, .int .i64 vm, .string tb, .int .i64 line])) (hg : ((W5.alloc (.cells #[.int .i64 p.words.length, .int .i64 vo, .int .i64 va, .int .i64 vb, .int .i64 vm, .string tb, .int .i64 line] 104)).drew).grownBy w6 (Value.slice A2 p.jumps.length c2).ownBlock) (hat : (Value.slice A2 p.jumps.length c2).ownBlock = some g ∨ g = W5.heap.size + 1) => show ∃ v', PgAt (w6.setCell ⟨pb, 2, none⟩ (.slice (some ⟨g, 0, none⟩) (p.jumps.length + 1) cap)) base pb mb ⟨p.words, p.labs, p.jumps ++ [⟨p.words.length, ⟨vo, va, vb, vm⟩, tl, line⟩]⟩ v1 v' ∧ KqS (SLow pb mb) base W5 (w6.setCell ⟨pb, 2, none⟩ (.slice (some ⟨g, 0, none⟩) (p.jumps.length + 1) cap)) ∧ Blk (w6.setCell ⟨pb, 2, none⟩ (.slice (some ⟨g, 0, none⟩) (p.jumps.length + 1) cap)) xb 86 #[.int .i64 vo, .int .i64 va, .int .i64 vb, .int .i64 vm] from by
      have hX : Below W5.heap.size W5 ((W5.alloc (.cells #[.int .i64 p.words.length, .int .i64 vo, .int .i64 va, .int .i64 vb, .int .i64 vm, .string tb, .int .i64 line] 104)).drew) := (bl_new HBR.out _).drew
      have hc : JmpS.cells ⟨p.words.length, ⟨vo, va, vb, vm⟩, tl, line⟩ = [.int .i64 p.words.length, .int .i64 vo, .int .i64 va, .int .i64 vb, .int .i64 vm, .string tb, .int .i64 line] := by
        rw [← HTB.out]; rfl
      obtain ⟨h1, h2⟩ := HP5.out.jump (j := ⟨p.words.length, ⟨vo, va, vb, vm⟩, tl, line⟩) hX (by rw [hc]; exact hown) (by rw [HV2.out]; exact hg) (by
        rw [HV2.out]
        rcases hat with h | h
        · exact .inl h.symm
        · refine .inr ?_
          show some g = _
          rw [h]
          simp)
      exact ⟨_, h1, h2, (((HXC.out _ hX).grown hg (HXB.out _ hX)).far (by simpa using hpx.symm) _)⟩)
    go_cut [] from 97 to 114 (fun w7 => ∃ v', PgAt w7 base pb mb ⟨p.words, p.labs, p.jumps ++ [⟨p.words.length, ⟨vo, va, vb, vm⟩, tl, line⟩]⟩ v1 v' ∧ KqS (SLow pb mb) base W5 w7 ∧ Blk w7 xb 86 #[.int .i64 vo, .int .i64 va, .int .i64 vb, .int .i64 vm])
    case first =>
      -- REGION17
      refine wp_region_any (by kernel_rfl) ?_
      change wpAny _ _ _ _ _ _ _ (World.drew _)
      refine wpAny_take (i := 0) (v := ?_) rfl (by kernel_rfl) (by kernel_rfl) (by kernel_rfl) (fun _ _ _ h => h) (Or.inl ⟨by rfl, ?_⟩) ?_
      rotate_left 1
      · intro w
        go_simp
        all_goals with_reducible rfl
      refine wpAny_take (i := 1) (v := ?_) rfl (by kernel_rfl) (by kernel_rfl) (by kernel_rfl) (fun _ _ _ h => h) (Or.inl ⟨by rfl, ?_⟩) ?_
      rotate_left 1
      · intro w
        go_simp
        all_goals with_reducible rfl
      refine wpAny_take (i := 2) (v := ?_) rfl (by kernel_rfl) (by kernel_rfl) (by kernel_rfl) (fun _ _ _ h => h) (Or.inl ⟨by rfl, ?_⟩) ?_
      rotate_left 1
      · intro w
        go_simp
        all_goals with_reducible rfl
      refine wpAny_take (i := 3) (v := ?_) rfl (by kernel_rfl) (by kernel_rfl) (by kernel_rfl) (fun _ _ _ h => h) (Or.inl ⟨by rfl, ?_⟩) ?_
      rotate_left 1
      · intro w
        go_simp
        all_goals with_reducible rfl
      refine wpAny_take (i := 5) (v := ?_) rfl (by kernel_rfl) (by kernel_rfl) (by kernel_rfl) (fun _ _ _ h => h) (Or.inl ⟨by rfl, ?_⟩) ?_
      rotate_left 1
      · intro w
        go_simp
        all_goals with_reducible rfl
      refine wpAny_take (i := 6) (v := ?_) rfl (by kernel_rfl) (by kernel_rfl) (by kernel_rfl) (fun _ _ _ h => h) (Or.inl ⟨by rfl, ?_⟩) ?_
      rotate_left 1
      · intro w
        go_simp
        all_goals with_reducible rfl
      refine wpAny_take (i := 7) (v := ?_) rfl (by kernel_rfl) (by kernel_rfl) (by kernel_rfl) (fun _ _ _ h => h) (Or.inl ⟨by rfl, ?_⟩) ?_
      rotate_left 1
      · intro w
        go_simp
        all_goals with_reducible rfl
      refine wpAny_take (i := 11) (v := ?_) rfl (by kernel_rfl) (by kernel_rfl) (by kernel_rfl) (fun _ _ _ h => h) (Or.inl ⟨by rfl, ?_⟩) ?_
      rotate_left 1
      · intro w
        go_simp
        all_goals with_reducible rfl
      refine wpAny_take (i := 12) (v := ?_) rfl (by kernel_rfl) (by kernel_rfl) (by kernel_rfl) (fun _ _ _ h => h) (Or.inl ⟨by rfl, ?_⟩) ?_
      rotate_left 1
      · intro w
        go_simp
        all_goals with_reducible rfl
      refine wpAny_ready (rs := [4, 8, 10]) (by kernel_rfl) (by simp) ?_
      refine AllReady.cons rfl (fun K hK => ?_) (AllReady.cons rfl (fun K hK => ?_) (AllReady.cons rfl (fun K hK => ?_) AllReady.nil))
      · go_simp
        refine hK _ _ ?_
        clear hK K
        refine wpAny_ready (rs := [8, 10]) (by kernel_rfl) (by simp) ?_
        refine AllReady.cons rfl (fun K hK => ?_) (AllReady.cons rfl (fun K hK => ?_) AllReady.nil)
        · go_simp
          refine hK _ _ ?_
          clear hK K
          refine wpAny_take (i := 9) (v := ?_) rfl (by kernel_rfl) (by kernel_rfl) (by kernel_rfl) (fun _ _ _ h => h) (Or.inl ⟨by rfl, ?_⟩) ?_
          rotate_left 1
          · intro w
            go_simp
            all_goals with_reducible rfl
          refine wpAny_ready (rs := [10]) (by kernel_rfl) (by simp) ?_
          refine AllReady.cons rfl (fun K hK => ?_) AllReady.nil
          go_simp
          refine hK _ _ ?_
          clear hK K
          refine wpAny_take (i := 13) (v := ?_) rfl (by kernel_rfl) (by kernel_rfl) (by kernel_rfl) (fun _ _ _ h => h) (Or.inl ⟨by rfl, ?_⟩) ?_
          rotate_left 1
          · intro w
            go_simp
            all_goals with_reducible rfl
          refine wpAny_ready (rs := [14]) (by kernel_rfl) (by simp) ?_
          refine AllReady.cons rfl (fun K hK => ?_) AllReady.nil
          go_simp
          refine hK _ _ ?_
          clear hK K
          refine wpAny_ready (rs := [15]) (by kernel_rfl) (by simp) ?_
          refine AllReady.cons rfl (fun K hK => ?_) AllReady.nil
          refine step_append_lies _ (by rfl) _ _ 97 (by rfl) base 104 i1 _ 7 64 Tryz.underlying97 hi' hz0' hz1' hz2' rfl (by decide) (.slice A2 p.jumps.length c2) p.jumps.length (p.jumps.flatMap JmpS.cells) (by rfl) (hown2.alloc _) ⟨W5.heap.size, 0, none⟩ 1 1 [.int .i64 p.words.length, .int .i64 vo, .int .i64 va, .int .i64 vb, .int .i64 vm, .string tb, .int .i64 line] (by rfl) (by rfl) (World.news_of_block (heap_alloc_new W5 _)) (by simp [Value.oneCell']) (by omega) (by unfold maxLen; omega) (by omega) (by simp; have := HLB.out; omega) (W5.heap.size + 1) (by simp) ?_
          intro g cap w6 hown6 hgrow6 hat6 hlt6
          have h6 := HKQ.out _ _ (bl_new HBR.out _).drew hgrow6
          have c26 := h6.2.1
          have f26 := h6.2.2.2.2.2.2.1
          have l26 := h6.2.2.2.2.2.2.2
          clear h6
          refine hK _ _ ?_
          clear hK K
          refine wpAny_ready (rs := [16]) (by kernel_rfl) (by simp) ?_
          refine AllReady.cons rfl (fun K hK => ?_) AllReady.nil
          go_simp
          refine hK _ _ ?_
          clear hK K
          refine wpAny_ready (rs := [17]) (by kernel_rfl) (by simp) ?_
          refine AllReady.cons rfl (fun K hK => ?_) AllReady.nil
          go_simp
          refine hK _ _ ?_
          clear hK K
          refine wpAny_ready (rs := [18]) (by kernel_rfl) (by simp) ?_
          refine AllReady.cons rfl (fun K hK => ?_) AllReady.nil
          go_simp
          refine hK _ _ ?_
          clear hK K
          refine wpAny_done (by kernel_rfl) ?_ _
          go_wp2_with fail
          go_meet
          exact HFIN.out _ _ _ hown6 hgrow6 hat6
        · go_simp
          refine hK _ _ ?_
          clear hK K
          refine wpAny_ready (rs := [8]) (by kernel_rfl) (by simp) ?_
          refine AllReady.cons rfl (fun K hK => ?_) AllReady.nil
          go_simp
          refine hK _ _ ?_
          clear hK K
          refine wpAny_take (i := 9) (v := ?_) rfl (by kernel_rfl) (by kernel_rfl) (by kernel_rfl) (fun _ _ _ h => h) (Or.inl ⟨by rfl, ?_⟩) ?_
          rotate_left 1
          · intro w
            go_simp
            all_goals with_reducible rfl
          refine wpAny_take (i := 13) (v := ?_) rfl (by kernel_rfl) (by kernel_rfl) (by kernel_rfl) (fun _ _ _ h => h) (Or.inl ⟨by rfl, ?_⟩) ?_
          rotate_left 1
          · intro w
            go_simp
            all_goals with_reducible rfl
          refine wpAny_ready (rs := [14]) (by kernel_rfl) (by simp) ?_
          refine AllReady.cons rfl (fun K hK => ?_) AllReady.nil
          go_simp
          refine hK _ _ ?_
          clear hK K
          refine wpAny_ready (rs := [15]) (by kernel_rfl) (by simp) ?_
          refine AllReady.cons rfl (fun K hK => ?_) AllReady.nil
          refine step_append_lies _ (by rfl) _ _ 97 (by rfl) base 104 i1 _ 7 64 Tryz.underlying97 hi' hz0' hz1' hz2' rfl (by decide) (.slice A2 p.jumps.length c2) p.jumps.length (p.jumps.flatMap JmpS.cells) (by rfl) (hown2.alloc _) ⟨W5.heap.size, 0, none⟩ 1 1 [.int .i64 p.words.length, .int .i64 vo, .int .i64 va, .int .i64 vb, .int .i64 vm, .string tb, .int .i64 line] (by rfl) (by rfl) (World.news_of_block (heap_alloc_new W5 _)) (by simp [Value.oneCell']) (by omega) (by unfold maxLen; omega) (by omega) (by simp; have := HLB.out; omega) (W5.heap.size + 1) (by simp) ?_
          intro g cap w6 hown6 hgrow6 hat6 hlt6
          have h6 := HKQ.out _ _ (bl_new HBR.out _).drew hgrow6
          have c26 := h6.2.1
          have f26 := h6.2.2.2.2.2.2.1
          have l26 := h6.2.2.2.2.2.2.2
          clear h6
          refine hK _ _ ?_
          clear hK K
          refine wpAny_ready (rs := [16]) (by kernel_rfl) (by simp) ?_
          refine AllReady.cons rfl (fun K hK => ?_) AllReady.nil
          go_simp
          refine hK _ _ ?_
          clear hK K
          refine wpAny_ready (rs := [17]) (by kernel_rfl) (by simp) ?_
          refine AllReady.cons rfl (fun K hK => ?_) AllReady.nil
          go_simp
          refine hK _ _ ?_
          clear hK K
          refine wpAny_ready (rs := [18]) (by kernel_rfl) (by simp) ?_
          refine AllReady.cons rfl (fun K hK => ?_) AllReady.nil
          go_simp
          refine hK _ _ ?_
          clear hK K
          refine wpAny_done (by kernel_rfl) ?_ _
          go_wp2_with fail
          go_meet
          exact HFIN.out _ _ _ hown6 hgrow6 hat6
      · go_simp
        refine hK _ _ ?_
        clear hK K
        refine wpAny_take (i := 9) (v := ?_) rfl (by kernel_rfl) (by kernel_rfl) (by kernel_rfl) (fun _ _ _ h => h) (Or.inl ⟨by rfl, ?_⟩) ?_
        rotate_left 1
        · intro w
          go_simp
          all_goals with_reducible rfl
        refine wpAny_ready (rs := [4, 10]) (by kernel_rfl) (by simp) ?_
        refine AllReady.cons rfl (fun K hK => ?_) (AllReady.cons rfl (fun K hK => ?_) AllReady.nil)
        · go_simp
          refine hK _ _ ?_
          clear hK K
          refine wpAny_ready (rs := [10]) (by kernel_rfl) (by simp) ?_
          refine AllReady.cons rfl (fun K hK => ?_) AllReady.nil
          go_simp
          refine hK _ _ ?_
          clear hK K
          refine wpAny_take (i := 13) (v := ?_) rfl (by kernel_rfl) (by kernel_rfl) (by kernel_rfl) (fun _ _ _ h => h) (Or.inl ⟨by rfl, ?_⟩) ?_
          rotate_left 1
          · intro w
            go_simp
            all_goals with_reducible rfl
          refine wpAny_ready (rs := [14]) (by kernel_rfl) (by simp) ?_
          refine AllReady.cons rfl (fun K hK => ?_) AllReady.nil
          go_simp
          refine hK _ _ ?_
          clear hK K
          refine wpAny_ready (rs := [15]) (by kernel_rfl) (by simp) ?_
          refine AllReady.cons rfl (fun K hK => ?_) AllReady.nil
          refine step_append_lies _ (by rfl) _ _ 97 (by rfl) base 104 i1 _ 7 64 Tryz.underlying97 hi' hz0' hz1' hz2' rfl (by decide) (.slice A2 p.jumps.length c2) p.jumps.length (p.jumps.flatMap JmpS.cells) (by rfl) (hown2.alloc _) ⟨W5.heap.size, 0, none⟩ 1 1 [.int .i64 p.words.length, .int .i64 vo, .int .i64 va, .int .i64 vb, .int .i64 vm, .string tb, .int .i64 line] (by rfl) (by rfl) (World.news_of_block (heap_alloc_new W5 _)) (by simp [Value.oneCell']) (by omega) (by unfold maxLen; omega) (by omega) (by simp; have := HLB.out; omega) (W5.heap.size + 1) (by simp) ?_
          intro g cap w6 hown6 hgrow6 hat6 hlt6
          have h6 := HKQ.out _ _ (bl_new HBR.out _).drew hgrow6
          have c26 := h6.2.1
          have f26 := h6.2.2.2.2.2.2.1
          have l26 := h6.2.2.2.2.2.2.2
          clear h6
          refine hK _ _ ?_
          clear hK K
          refine wpAny_ready (rs := [16]) (by kernel_rfl) (by simp) ?_
          refine AllReady.cons rfl (fun K hK => ?_) AllReady.nil
          go_simp
          refine hK _ _ ?_
          clear hK K
          refine wpAny_ready (rs := [17]) (by kernel_rfl) (by simp) ?_
          refine AllReady.cons rfl (fun K hK => ?_) AllReady.nil
          go_simp
          refine hK _ _ ?_
          clear hK K
          refine wpAny_ready (rs := [18]) (by kernel_rfl) (by simp) ?_
          refine AllReady.cons rfl (fun K hK => ?_) AllReady.nil
          go_simp
          refine hK _ _ ?_
          clear hK K
          refine wpAny_done (by kernel_rfl) ?_ _
          go_wp2_with fail
          go_meet
          exact HFIN.out _ _ _ hown6 hgrow6 hat6
        · go_simp
          refine hK _ _ ?_
          clear hK K
          refine wpAny_take (i := 13) (v := ?_) rfl (by kernel_rfl) (by kernel_rfl) (by kernel_rfl) (fun _ _ _ h => h) (Or.inl ⟨by rfl, ?_⟩) ?_
          rotate_left 1
          · intro w
            go_simp
            all_goals with_reducible rfl
          refine wpAny_ready (rs := [4, 14]) (by kernel_rfl) (by simp) ?_
          refine AllReady.cons rfl (fun K hK => ?_) (AllReady.cons rfl (fun K hK => ?_) AllReady.nil)
          · go_simp
            refine hK _ _ ?_
            clear hK K
            refine wpAny_ready (rs := [14]) (by kernel_rfl) (by simp) ?_
            refine AllReady.cons rfl (fun K hK => ?_) AllReady.nil
            go_simp
            refine hK _ _ ?_
            clear hK K
            refine wpAny_ready (rs := [15]) (by kernel_rfl) (by simp) ?_
            refine AllReady.cons rfl (fun K hK => ?_) AllReady.nil
            refine step_append_lies _ (by rfl) _ _ 97 (by rfl) base 104 i1 _ 7 64 Tryz.underlying97 hi' hz0' hz1' hz2' rfl (by decide) (.slice A2 p.jumps.length c2) p.jumps.length (p.jumps.flatMap JmpS.cells) (by rfl) (hown2.alloc _) ⟨W5.heap.size, 0, none⟩ 1 1 [.int .i64 p.words.length, .int .i64 vo, .int .i64 va, .int .i64 vb, .int .i64 vm, .string tb, .int .i64 line] (by rfl) (by rfl) (World.news_of_block (heap_alloc_new W5 _)) (by simp [Value.oneCell']) (by omega) (by unfold maxLen; omega) (by omega) (by simp; have := HLB.out; omega) (W5.heap.size + 1) (by simp) ?_
            intro g cap w6 hown6 hgrow6 hat6 hlt6
            have h6 := HKQ.out _ _ (bl_new HBR.out _).drew hgrow6
            have c26 := h6.2.1
            have f26 := h6.2.2.2.2.2.2.1
            have l26 := h6.2.2.2.2.2.2.2
            clear h6
            refine hK _ _ ?_
            clear hK K
            refine wpAny_ready (rs := [16]) (by kernel_rfl) (by simp) ?_
            refine AllReady.cons rfl (fun K hK => ?_) AllReady.nil
            go_simp
            refine hK _ _ ?_
            clear hK K
            refine wpAny_ready (rs := [17]) (by kernel_rfl) (by simp) ?_
            refine AllReady.cons rfl (fun K hK => ?_) AllReady.nil
            go_simp
            refine hK _ _ ?_
            clear hK K
            refine wpAny_ready (rs := [18]) (by kernel_rfl) (by simp) ?_
            refine AllReady.cons rfl (fun K hK => ?_) AllReady.nil
            go_simp
            refine hK _ _ ?_
            clear hK K
            refine wpAny_done (by kernel_rfl) ?_ _
            go_wp2_with fail
            go_meet
            exact HFIN.out _ _ _ hown6 hgrow6 hat6
          · go_simp
            refine hK _ _ ?_
            clear hK K
            refine wpAny_ready (rs := [4]) (by kernel_rfl) (by simp) ?_
            refine AllReady.cons rfl (fun K hK => ?_) AllReady.nil
            go_simp
            refine hK _ _ ?_
            clear hK K
            refine wpAny_ready (rs := [15]) (by kernel_rfl) (by simp) ?_
            refine AllReady.cons rfl (fun K hK => ?_) AllReady.nil
            refine step_append_lies _ (by rfl) _ _ 97 (by rfl) base 104 i1 _ 7 64 Tryz.underlying97 hi' hz0' hz1' hz2' rfl (by decide) (.slice A2 p.jumps.length c2) p.jumps.length (p.jumps.flatMap JmpS.cells) (by rfl) (hown2.alloc _) ⟨W5.heap.size, 0, none⟩ 1 1 [.int .i64 p.words.length, .int .i64 vo, .int .i64 va, .int .i64 vb, .int .i64 vm, .string tb, .int .i64 line] (by rfl) (by rfl) (World.news_of_block (heap_alloc_new W5 _)) (by simp [Value.oneCell']) (by omega) (by unfold maxLen; omega) (by omega) (by simp; have := HLB.out; omega) (W5.heap.size + 1) (by simp) ?_
            intro g cap w6 hown6 hgrow6 hat6 hlt6
            have h6 := HKQ.out _ _ (bl_new HBR.out _).drew hgrow6
            have c26 := h6.2.1
            have f26 := h6.2.2.2.2.2.2.1
            have l26 := h6.2.2.2.2.2.2.2
            clear h6
            refine hK _ _ ?_
            clear hK K
            refine wpAny_ready (rs := [16]) (by kernel_rfl) (by simp) ?_
            refine AllReady.cons rfl (fun K hK => ?_) AllReady.nil
            go_simp
            refine hK _ _ ?_
            clear hK K
            refine wpAny_ready (rs := [17]) (by kernel_rfl) (by simp) ?_
            refine AllReady.cons rfl (fun K hK => ?_) AllReady.nil
            go_simp
            refine hK _ _ ?_
            clear hK K
            refine wpAny_ready (rs := [18]) (by kernel_rfl) (by simp) ?_
            refine AllReady.cons rfl (fun K hK => ?_) AllReady.nil
            go_simp
            refine hK _ _ ?_
            clear hK K
            refine wpAny_done (by kernel_rfl) ?_ _
            go_wp2_with fail
            go_meet
            exact HFIN.out _ _ _ hown6 hgrow6 hat6
      · go_simp
        refine hK _ _ ?_
        clear hK K
        refine wpAny_ready (rs := [4, 8]) (by kernel_rfl) (by simp) ?_
        refine AllReady.cons rfl (fun K hK => ?_) (AllReady.cons rfl (fun K hK => ?_) AllReady.nil)
        · go_simp
          refine hK _ _ ?_
          clear hK K
          refine wpAny_ready (rs := [8]) (by kernel_rfl) (by simp) ?_
          refine AllReady.cons rfl (fun K hK => ?_) AllReady.nil
          go_simp
          refine hK _ _ ?_
          clear hK K
          refine wpAny_take (i := 9) (v := ?_) rfl (by kernel_rfl) (by kernel_rfl) (by kernel_rfl) (fun _ _ _ h => h) (Or.inl ⟨by rfl, ?_⟩) ?_
          rotate_left 1
          · intro w
            go_simp
            all_goals with_reducible rfl
          refine wpAny_take (i := 13) (v := ?_) rfl (by kernel_rfl) (by kernel_rfl) (by kernel_rfl) (fun _ _ _ h => h) (Or.inl ⟨by rfl, ?_⟩) ?_
          rotate_left 1
          · intro w
            go_simp
            all_goals with_reducible rfl
          refine wpAny_ready (rs := [14]) (by kernel_rfl) (by simp) ?_
          refine AllReady.cons rfl (fun K hK => ?_) AllReady.nil
          go_simp
          refine hK _ _ ?_
          clear hK K
          refine wpAny_ready (rs := [15]) (by kernel_rfl) (by simp) ?_
          refine AllReady.cons rfl (fun K hK => ?_) AllReady.nil
          refine step_append_lies _ (by rfl) _ _ 97 (by rfl) base 104 i1 _ 7 64 Tryz.underlying97 hi' hz0' hz1' hz2' rfl (by decide) (.slice A2 p.jumps.length c2) p.jumps.length (p.jumps.flatMap JmpS.cells) (by rfl) (hown2.alloc _) ⟨W5.heap.size, 0, none⟩ 1 1 [.int .i64 p.words.length, .int .i64 vo, .int .i64 va, .int .i64 vb, .int .i64 vm, .string tb, .int .i64 line] (by rfl) (by rfl) (World.news_of_block (heap_alloc_new W5 _)) (by simp [Value.oneCell']) (by omega) (by unfold maxLen; omega) (by omega) (by simp; have := HLB.out; omega) (W5.heap.size + 1) (by simp) ?_
          intro g cap w6 hown6 hgrow6 hat6 hlt6
          have h6 := HKQ.out _ _ (bl_new HBR.out _).drew hgrow6
          have c26 := h6.2.1
          have f26 := h6.2.2.2.2.2.2.1
          have l26 := h6.2.2.2.2.2.2.2
          clear h6
          refine hK _ _ ?_
          clear hK K
          refine wpAny_ready (rs := [16]) (by kernel_rfl) (by simp) ?_
          refine AllReady.cons rfl (fun K hK => ?_) AllReady.nil
          go_simp
          refine hK _ _ ?_
          clear hK K
          refine wpAny_ready (rs := [17]) (by kernel_rfl) (by simp) ?_
          refine AllReady.cons rfl (fun K hK => ?_) AllReady.nil
          go_simp
          refine hK _ _ ?_
          clear hK K
          refine wpAny_ready (rs := [18]) (by kernel_rfl) (by simp) ?_
          refine AllReady.cons rfl (fun K hK => ?_) AllReady.nil
          go_simp
          refine hK _ _ ?_
          clear hK K
          refine wpAny_done (by kernel_rfl) ?_ _
          go_wp2_with fail
          go_meet
          exact HFIN.out _ _ _ hown6 hgrow6 hat6
        · go_simp
          refine hK _ _ ?_
          clear hK K
          refine wpAny_take (i := 9) (v := ?_) rfl (by kernel_rfl) (by kernel_rfl) (by kernel_rfl) (fun _ _ _ h => h) (Or.inl ⟨by rfl, ?_⟩) ?_
          rotate_left 1
          · intro w
            go_simp
            all_goals with_reducible rfl
          refine wpAny_take (i := 13) (v := ?_) rfl (by kernel_rfl) (by kernel_rfl) (by kernel_rfl) (fun _ _ _ h => h) (Or.inl ⟨by rfl, ?_⟩) ?_
          rotate_left 1
          · intro w
            go_simp
            all_goals with_reducible rfl
          refine wpAny_ready (rs := [4, 14]) (by kernel_rfl) (by simp) ?_
          refine AllReady.cons rfl (fun K hK => ?_) (AllReady.cons rfl (fun K hK => ?_) AllReady.nil)
          · go_simp
            refine hK _ _ ?_
            clear hK K
            refine wpAny_ready (rs := [14]) (by kernel_rfl) (by simp) ?_
            refine AllReady.cons rfl (fun K hK => ?_) AllReady.nil
            go_simp
            refine hK _ _ ?_
            clear hK K
            refine wpAny_ready (rs := [15]) (by kernel_rfl) (by simp) ?_
            refine AllReady.cons rfl (fun K hK => ?_) AllReady.nil
            refine step_append_lies _ (by rfl) _ _ 97 (by rfl) base 104 i1 _ 7 64 Tryz.underlying97 hi' hz0' hz1' hz2' rfl (by decide) (.slice A2 p.jumps.length c2) p.jumps.length (p.jumps.flatMap JmpS.cells) (by rfl) (hown2.alloc _) ⟨W5.heap.size, 0, none⟩ 1 1 [.int .i64 p.words.length, .int .i64 vo, .int .i64 va, .int .i64 vb, .int .i64 vm, .string tb, .int .i64 line] (by rfl) (by rfl) (World.news_of_block (heap_alloc_new W5 _)) (by simp [Value.oneCell']) (by omega) (by unfold maxLen; omega) (by omega) (by simp; have := HLB.out; omega) (W5.heap.size + 1) (by simp) ?_
            intro g cap w6 hown6 hgrow6 hat6 hlt6
            have h6 := HKQ.out _ _ (bl_new HBR.out _).drew hgrow6
            have c26 := h6.2.1
            have f26 := h6.2.2.2.2.2.2.1
            have l26 := h6.2.2.2.2.2.2.2
            clear h6
            refine hK _ _ ?_
            clear hK K
            refine wpAny_ready (rs := [16]) (by kernel_rfl) (by simp) ?_
            refine AllReady.cons rfl (fun K hK => ?_) AllReady.nil
            go_simp
            refine hK _ _ ?_
            clear hK K
            refine wpAny_ready (rs := [17]) (by kernel_rfl) (by simp) ?_
            refine AllReady.cons rfl (fun K hK => ?_) AllReady.nil
            go_simp
            refine hK _ _ ?_
            clear hK K
            refine wpAny_ready (rs := [18]) (by kernel_rfl) (by simp) ?_
            refine AllReady.cons rfl (fun K hK => ?_) AllReady.nil
            go_simp
            refine hK _ _ ?_
            clear hK K
            refine wpAny_done (by kernel_rfl) ?_ _
            go_wp2_with fail
            go_meet
            exact HFIN.out _ _ _ hown6 hgrow6 hat6
          · go_simp
            refine hK _ _ ?_
            clear hK K
            refine wpAny_ready (rs := [4]) (by kernel_rfl) (by simp) ?_
            refine AllReady.cons rfl (fun K hK => ?_) AllReady.nil
            go_simp
            refine hK _ _ ?_
            clear hK K
            refine wpAny_ready (rs := [15]) (by kernel_rfl) (by simp) ?_
            refine AllReady.cons rfl (fun K hK => ?_) AllReady.nil
            refine step_append_lies _ (by rfl) _ _ 97 (by rfl) base 104 i1 _ 7 64 Tryz.underlying97 hi' hz0' hz1' hz2' rfl (by decide) (.slice A2 p.jumps.length c2) p.jumps.length (p.jumps.flatMap JmpS.cells) (by rfl) (hown2.alloc _) ⟨W5.heap.size, 0, none⟩ 1 1 [.int .i64 p.words.length, .int .i64 vo, .int .i64 va, .int .i64 vb, .int .i64 vm, .string tb, .int .i64 line] (by rfl) (by rfl) (World.news_of_block (heap_alloc_new W5 _)) (by simp [Value.oneCell']) (by omega) (by unfold maxLen; omega) (by omega) (by simp; have := HLB.out; omega) (W5.heap.size + 1) (by simp) ?_
            intro g cap w6 hown6 hgrow6 hat6 hlt6
            have h6 := HKQ.out _ _ (bl_new HBR.out _).drew hgrow6
            have c26 := h6.2.1
            have f26 := h6.2.2.2.2.2.2.1
            have l26 := h6.2.2.2.2.2.2.2
            clear h6
            refine hK _ _ ?_
            clear hK K
            refine wpAny_ready (rs := [16]) (by kernel_rfl) (by simp) ?_
            refine AllReady.cons rfl (fun K hK => ?_) AllReady.nil
            go_simp
            refine hK _ _ ?_
            clear hK K
            refine wpAny_ready (rs := [17]) (by kernel_rfl) (by simp) ?_
            refine AllReady.cons rfl (fun K hK => ?_) AllReady.nil
            go_simp
            refine hK _ _ ?_
            clear hK K
            refine wpAny_ready (rs := [18]) (by kernel_rfl) (by simp) ?_
            refine AllReady.cons rfl (fun K hK => ?_) AllReady.nil
            go_simp
            refine hK _ _ ?_
            clear hK K
            refine wpAny_done (by kernel_rfl) ?_ _
            go_wp2_with fail
            go_meet
            exact HFIN.out _ _ _ hown6 hgrow6 hat6
      -- END17
    case rest =>
      obtain ⟨v3, hP7, hK7, hX7⟩ := hcut
      have HK7 := Lib.hid (((KqS.refl (SLow pb mb) base _).below HB5.out).trans hK7)
      have HP7 := Lib.hid hP7
      obtain ⟨x0, x1, x2, x3, xlt⟩ := ccells hX7
      have hL7 := laid_kq HG.out.laid HP.out HK7.out hgb
      clear hP7 hK7 hX7 c05 c25 x05 x15 x25 x35 f25 l25 hown2
      go_wp2_with fail
      refine (HEN.out _ hL7).mono ?_
      rintro e w8 ⟨rfl, hb8⟩
      have HP8 := Lib.hid (HP7.out.below hb8)
      have HK8 := Lib.hid (HK7.out.below hb8)
      clear x0 x1 x2 x3 xlt hb8 hL7
      have b0 := HP8.out.blk.cell 0
      have blt := HP8.out.blk.lt
      have f0 := HP8.out.blk.frozen 0
      simp only [List.getElem?_toArray, List.getElem?_cons_zero, List.getElem?_cons_succ] at b0
      rw [HV1.out] at b0
      have hown := HP8.out.words
      rw [HV1.out] at hown
      have hlb := HP8.out.lb
      go_wp2_with (at_builtin; refine wpList_append_own_at _ rfl _ _ 22 rfl base 41 i0 _ 1 4 Tryz.underlying22 hi hz0 hz1 hz2 rfl (by decide) _ _ _ rfl (hown.alloc _) ⟨w8.heap.size, 0, none⟩ 1 1 [.int .u32 ew] rfl rfl (cell_one_new _ _ _) (by simp [Value.oneCell']) (by unfold maxLen; omega) (by omega) (by simp; omega) ?_; intro v' w9 hown9 hgrow9 _ hloc9; obtain ⟨A', c', rfl⟩ := own_form hown9; have hb5 := (HP8.out.blk.alloc _).grown hgrow9 (HV1.out ▸ (HP8.out.notLow HP8.out.words).1); have f5 := hb5.frozen 0; have c5 := hb5.cell 0; have l5 := hb5.lt; simp only [List.getElem?_toArray, List.getElem?_cons_zero] at c5)
      obtain ⟨hP9, hK9⟩ := HP8.out.word (x := ew) ((Below.refl w8.heap.size w8).alloc (Nat.le_refl _) (.cells #[.int .u32 ew] 41)) hown9 (HV1.out ▸ hgrow9) (HV1.out ▸ hloc9)
      rw [HPO.out]
      exact ⟨rfl, _, _, hP9, HK8.out.trans hK9⟩
end Go.Proofs.YtpikgebfeleajaaGreatDoor.I
