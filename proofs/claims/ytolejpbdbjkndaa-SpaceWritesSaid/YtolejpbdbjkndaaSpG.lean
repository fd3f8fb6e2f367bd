/-
  Drop of spaces. Condition: the space and the frames lie in blocks of their own.
-/
import Derived.Test.YtolejpbdbjkndaaSpE
import Derived.Test.YtolejpbdbjkndaaSpD
namespace Go.Proofs.Ytolejpbdbjkndaa
section
open Go.RowKit Go.Shelf
set_option linter.unusedVariables false
set_option linter.unusedSimpArgs false
attribute [local go_sem] Oper.semAt_some

/-- The bytes of a page; none: it is not mapped. -/
def pageP (F : Fs) (m : M) (p : Nat) : List Int := match m p with
  | some x => F.b x.f.toNat
  | none => []
theorem pcJ_page (p : Nat) : pcJ (p * 64) 64 = 1 := by
  unfold pcJ
  rw [if_neg (by decide)]
  omega
theorem okK_page (m : M) {p : Nat} (hp : p < 64) (wr : Bool) : okK m (p * 64) wr (pcJ (p * 64) 64) ↔ ∃ x, m p = some x ∧ (wr = true → x.w = true) := by
  rw [pcJ_page]
  have e : p * 64 / 64 = p := by omega
  constructor
  · intro h
    have := h 0 (by omega)
    rw [e, Nat.add_zero, look_in m hp] at this
    exact this
  · intro h j hj
    have : j = 0 := by omega
    subst this
    rw [e, Nat.add_zero, look_in m hp]
    exact h
theorem readB_page {F : Fs} {m : M} (hF : F.Ok) {p : Nat} (hp : p < 64) {x : E} (hx : m p = some x) : readB F m (p * 64) 64 = F.b x.f.toNat := by
  unfold readB
  rw [pcJ_page, readK, readK]
  have e : p * 64 / 64 + 0 = p := by omega
  rw [e, look_in m hp, hx, List.nil_append]
  have h1 : (pcK (p * 64) 64 0).off = 0 := by
    show (p * 64 + frK (p * 64) 64 0) % 64 = 0
    rw [frK_zero]; omega
  have h2 : (pcK (p * 64) 64 0).n = 64 := by
    show min (64 - frK (p * 64) 64 0) (64 - (p * 64 + frK (p * 64) 64 0) % 64) = 64
    rw [frK_zero]; omega
  show partB F x.f.toNat (pcK (p * 64) 64 0).off (pcK (p * 64) 64 0).n = _
  rw [h1, h2]
  unfold partB
  rw [List.drop_zero, List.take_of_length_le (by rw [hF.len]; exact Nat.le_refl _)]
section
variable {w : World} {fb lb cap : Nat} {F : Fs} {sb bt : Nat} {q : Nat → Option Nat} {m : M}
set_option maxRecDepth 100000 in
set_option maxHeartbeats 1000000 in
theorem spPage_any (h : FS w fb lb cap F sb bt q m) (hok : SpOk F m) (p : Nat) (hp : p < 64) :
    Calls Try.prog 25 #[.pointer (some ⟨sb, 0, none⟩), .int .i64 (p : Int)] w fun e w' => ∃ v, e = .returned v ∧ w'.ownsRow w.heap.size 5 1 v (pageP F m p).length ((pageP F m p).map fun x => Value.int .u8 x) ∧ Below w.heap.size w w' := by
  have g1 : ¬ (p : Int) < 0 := by omega
  have g2 : ¬ (64 : Int) ≤ (p : Int) := by omega
  have g3 : (p : Int) < 64 := by omega
  cases hx : m p with
  | none =>
    have hb : pageP F m p = [] := by unfold pageP; rw [hx]
    rw [hb]
    have hr := spRead_no h hok (p * 64) 64 (by omega) (by omega) (fun e => by
      obtain ⟨x, h1, _⟩ := (okK_page m hp false).1 e
      rw [hx] at h1
      cases h1)
    rw [show ((p * 64 : Nat) : Int) = (p : Int) * 64 by omega] at hr
    have HR := Lib.hid hr
    clear h hok hr hx hb
    go_enter Try.func25, Try.ntmps25
    go_wp2_with (fail)
    refine HR.out.mono ?_
    rintro e W1 ⟨rfl, hb1⟩
    have HB1 := Lib.hid hb1
    clear hb1
    go_wp2
    go_ret
    exact ⟨_, rfl, World.ownsRow_nil _ _ _ _, HB1.out⟩
  | some x =>
    have hb : pageP F m p = F.b x.f.toNat := by unfold pageP; rw [hx]
    rw [hb]
    have hr := spRead_yes h hok (p * 64) 64 (by omega) (by omega) ((okK_page m hp false).2 ⟨x, hx, fun e => by cases e⟩)
    rw [readB_page h.f.ok hp hx, show ((p * 64 : Nat) : Int) = (p : Int) * 64 by omega] at hr
    have hl := h.f.ok.len x.f.toNat
    have HR := Lib.hid hr
    rw [hl]
    clear h hok hr hx hb hl
    generalize F.b x.f.toNat = bs at *
    go_enter Try.func25, Try.ntmps25
    go_wp2_with (fail)
    refine HR.out.mono ?_
    rintro e W1 ⟨v, rfl, hrow, hb1⟩
    obtain ⟨g, c, cur, rfl, _, _, _⟩ := row_open hrow (by decide)
    have HB1 := Lib.hid hb1
    have HR1 := Lib.hid hrow
    clear hb1 hrow
    go_wp2
    go_ret
    exact ⟨_, rfl, HR1.out, HB1.out⟩
set_option maxRecDepth 100000 in
theorem spDirty_any (h : FS w fb lb cap F sb bt q m) :
    Calls Try.prog 23 #[.pointer (some ⟨sb, 0, none⟩)] w fun e W' => ∃ v, e = .returned v ∧ W'.ownsRow w.heap.size 3 1 v (filt E.d (list m)).length ((filt E.d (list m)).map (Value.int .i64)) ∧ Below w.heap.size w W' := by
  have HN := Lib.hid (spNone_any h.s)
  have HL := Lib.hid (dirty_any h.s.t)
  obtain ⟨c0, c1, hlt⟩ := h.s.cells
  clear h
  go_enter Try.func23, Try.ntmps23
  go_wp2_with (fail)
  refine HN.out.mono ?_
  rintro e _ ⟨rfl, rfl⟩
  go_wp2_with (fail)
  refine HL.out.mono ?_
  rintro e W1 ⟨v, rfl, h1, h2, h3⟩
  have H1 := Lib.hid h1
  have H3 := Lib.hid h3
  clear h1 h2 h3
  go_wp2
  go_ret
  exact ⟨v, rfl, H1.out, H3.out⟩
end
end
end Go.Proofs.Ytolejpbdbjkndaa
namespace Go.Proofs.Ytolejpbdbjkndaa
section
open Go.RowKit Go.Shelf
set_option linter.unusedVariables false
set_option linter.unusedSimpArgs false
attribute [local go_sem] Oper.semAt_some

def dropGo (F : Fs) (m : M) (l : List (Nat × E)) : Nat → Fs × M
  | 0 => (F, m)
  | k + 1 => match l[k]? with
    | some y => (dropF (dropGo F m l k).1 y.2.f, upd (dropGo F m l k).2 y.1 none)
    | none => dropGo F m l k
theorem dropGo_succ {F : Fs} {m : M} {l : List (Nat × E)} {k : Nat} {y : Nat × E} (h : l[k]? = some y) : dropGo F m l (k + 1) = (dropF (dropGo F m l k).1 y.2.f, upd (dropGo F m l k).2 y.1 none) := by
  rw [dropGo, h]
section
variable {w : World} {fb lb cap : Nat} {F : Fs} {sb bt : Nat} {q : Nat → Option Nat} {m : M}
set_option maxRecDepth 100000 in
set_option maxHeartbeats 2000000 in
theorem spDrop_any (h : FS w fb lb cap F sb bt q m) :
    Calls Try.prog 16 #[.pointer (some ⟨sb, 0, none⟩)] w fun e w' => (∃ v, e = .returned v) ∧ ∃ w1, Below w.heap.size w w1 ∧ FOut w1 fb lb cap (dropGo F m (list m) (list m).length).1 sb bt q (dropGo F m (list m) (list m).length).2 w' := by
  have HH := Lib.hid h
  have HL := Lib.hid (spList_any h)
  have hll := listN_len m 64 0
  clear h
  go_enter Try.func16, Try.ntmps16
  go_wp2_with (fail)
  refine HL.out.mono ?_
  rintro e W1 ⟨v, rfl, hrow, _, hb1⟩
  have hrow : W1.ownsRow w.heap.size 62 6 v ((list m).map mapCells).length ((list m).map mapCells).flatten := by rw [List.length_map]; exact hrow
  obtain ⟨A, cp, rfl, hrows, hA⟩ := rows_own (fun r hr => by rw [List.mem_map] at hr; obtain ⟨y, _, rfl⟩ := hr; rfl) hrow
  have HS1 := Lib.hid (HH.out.below hb1)
  have HB1 := Lib.hid hb1
  have HR1 := Lib.hid hrows
  have HA1 := Lib.hid hA
  have HA0 := Lib.hid (show ∀ g o, A = some ⟨g, o, none⟩ → o = 0 from fun g o e => by
    rcases hrow.2 with ⟨h1, _⟩ | ⟨g', c3, cur, h1, _⟩
    · injection h1 with h1 _ _; rw [h1] at e; cases e
    · injection h1 with h1 _ _; rw [h1] at e; injection e with e; injection e with _ e2; exact e2.symm)
  have HLT := Lib.hid (show fb < W1.heap.size ∧ lb < W1.heap.size ∧ sb < W1.heap.size from ⟨HS1.out.f.lt.1, HS1.out.f.lt.2, HS1.out.s.p.lt⟩)
  have HOW := Lib.hid (show ∀ k, k = lb ∨ Own bt q k → k < w.heap.size from fun k hk => by
    rcases hk with rfl | hk
    · exact HH.out.f.lt.2
    · exact HH.out.s.t.own_lt hk)
  have HO1 := Lib.hid (FOut.start HS1.out)
  rw [List.length_map]
  clear hrow hrows hA hb1
  go_wp2_with (fail)
  go_loopw [7] (fun i wx => ∃ k : Nat, i = .int .i64 (k : Int) ∧ k ≤ (list m).length ∧ Hid (FOut W1 fb lb cap (dropGo F m (list m) k).1 sb bt q (dropGo F m (list m) k).2 wx)) (fun i _ => (list m).length - (intOf i).toNat)
  case atStart => exact ⟨0, rfl, Nat.zero_le _, HO1⟩
  case round =>
    obtain ⟨k, rfl, hk, HO⟩ := hrel
    by_cases hkn : k < (list m).length
    · have hki : (k : Int) < ((list m).length : Int) := by omega
      have hk64v : (k : Int) ≤ 64 := by have h1 := hll; have h2 := hkn; unfold list at h2; omega
      obtain ⟨y, hy⟩ : ∃ y, (list m)[k]? = some y := ⟨_, List.getElem?_eq_getElem hkn⟩
      have hsu := dropGo_succ (F := F) (m := m) hy
      obtain ⟨hp64, hmy⟩ := list_get hy
      have hrw : ((list m).map mapCells)[k]? = some (mapCells y) := by rw [List.getElem?_map, hy]; rfl
      obtain ⟨q', hs, hb, hq⟩ := HO.out
      have hrx : RowsAt wr A 6 ((list m).map mapCells) := HR1.out.but hb (fun _ g o e => fun hg => by
        have h1 := HOW.out g hg
        have h2 := HA1.out g o e
        omega)
      obtain ⟨g, off, hAb, hbl, hcells⟩ := hrx k _ hrw
      have ho0 := HA0.out g off hAb
      subst ho0
      subst hAb
      obtain ⟨pg, f, a1, a2, a3, a4⟩ := y
      dsimp only at hsu hp64
      have HSU := Lib.hid hsu
      simp only [mapCells, Nat.zero_add] at hcells
      have e0 := hcells 0 _ rfl
      have e1 := hcells 1 _ rfl
      have e2 := hcells 2 _ rfl
      have e3 := hcells 3 _ rfl
      have e4 := hcells 4 _ rfl
      have e5 := hcells 5 _ rfl
      simp only [Nat.add_zero] at e0
      have HS := Lib.hid hs
      have HB := Lib.hid hb
      have HQ := Lib.hid hq
      have HP64 := Lib.hid hp64
      clear hcells hrx hrw hs hb hq hsu hmy hy hp64
      go_upto_region 3 with (fail)
      have hm := Blk.new wr 62 #[.int .i64 (pg : Nat), .int .i64 f, .bool a1, .bool a2, .bool a3, .bool a4]
      have hbb := bl_new (Below.refl wr.heap.size wr) (.cells #[.int .i64 (pg : Nat), .int .i64 f, .bool a1, .bool a2, .bool a3, .bool a4] 62)
      have HN4 := Lib.hid (show w.heap.size ≤ wr.heap.size from Nat.le_trans HB1.out.size HB.out.size)
      clear e0 e1 e2 e3 e4 e5
      generalize wr.alloc (.cells #[.int .i64 (pg : Nat), .int .i64 f, .bool a1, .bool a2, .bool a3, .bool a4] 62) = W4 at *
      have HS4 := Lib.hid (HS.out.below hbb)
      have HB4 := Lib.hid (HB.out.thenBelow hbb HB.out.size)
      have c1 := HS4.out.s.p.cell 1
      have m0' := hm.cell 0
      simp only [List.getElem?_toArray, List.getElem?_cons_zero, List.getElem?_cons_succ] at c1 m0'
      have cl := HS4.out.s.p.lt
      have ml := hm.lt
      have hcl := clear_any HS4.out.s.t.drew ((pg : Nat) : Int)
      unfold clearM at hcl
      rw [if_pos (by have := HP64.out; omega), Int.toNat_natCast] at hcl
      have HCL := Lib.hid hcl
      have HM4 := Lib.hid hm
      clear hm hbb hcl HS HB
      go_still_tail 6, (by kernel_rfl)
      change wpList _ _ _ _ _ W4.drew
      have HS5 := Lib.hid (HS4.out.below (Below.refl _ W4).drew)
      have HB5 := Lib.hid HB4.out.drew
      have HM5 := Lib.hid HM4.out.drew
      have HZ5 := Lib.hid HM5.out.lt
      clear c1 m0' cl ml HS4 HB4 HM4
      generalize W4.drew = W5 at *
      go_wp2_with (fail)
      refine HCL.out.mono ?_
      rintro e W6 ⟨rfl, hmut⟩
      have HO6 := Lib.hid (FOut.table HS5.out HB5.out HQ.out hmut HLT.out)
      have HM6 := Lib.hid (by
        obtain ⟨_, _, hb2, _⟩ := hmut
        exact HM5.out.but hb2 (fun e => by
          rcases HQ.out _ e with h1 | h1
          · have := HOW.out _ (.inr h1)
            have := HN4.out
            omega
          · have := HS5.out.s.t
            rcases e with e | ⟨i, hi, e⟩
            · have h3 := this.top
              rw [← e] at h3
              exact (h3.ne_ HM5.out (by decide)) rfl
            · exact ((this.part i _ hi e).ne_ HM5.out (by decide)) rfl))
      clear hmut HCL HS5 HB5 HM5
      obtain ⟨q6, hs6, hb6, hq6⟩ := HO6.out
      have c0 := hs6.s.p.cell 0
      have m1' := HM6.out.cell 1
      simp only [List.getElem?_toArray, List.getElem?_cons_zero, List.getElem?_cons_succ] at c0 m1'
      have cl := hs6.s.p.lt
      have ml := HM6.out.lt
      have HD := Lib.hid (frDrop_any (hs6.below (Below.refl _ _).drew).f f)
      have HO7 := Lib.hid (show FOut W1 fb lb cap (dropGo F m (list m) k).1 sb bt q (upd (dropGo F m (list m) k).2 pg none) W6.drew from ⟨q6, hs6.below (Below.refl _ _).drew, hb6.drew, hq6⟩)
      clear hs6 hb6 hq6 HO6
      go_wp2_with (fail)
      go_still_tail 7, (by kernel_rfl)
      change wpList _ _ _ _ _ W6.drew
      clear c0 m1' cl ml HM6
      generalize W6.drew = W7 at *
      go_wp2_with (fail)
      refine HD.out.mono ?_
      rintro e W8 ⟨rfl, ho⟩
      have HO8 := Lib.hid (HO7.out.frames ho)
      clear ho HD HO7
      go_wp2
      exact ⟨⟨k + 1, by simp, by omega, Lib.hid (by rw [HSU.out]; exact HO8.out)⟩, by simp [intOf]; omega⟩
    · have hki : ¬ (k : Int) < ((list m).length : Int) := by omega
      have hkk : k = (list m).length := by omega
      have HI2 := Lib.hid (by rw [hkk] at HO; exact HO.out)
      clear hkk
      go_wp2
      exact bodyPost_end (results_none rfl _ _ _) rfl ⟨⟨_, rfl⟩, W1, HB1.out, HI2.out⟩
end
end
end Go.Proofs.Ytolejpbdbjkndaa
