/-
  The document's take: a line's instruction, and its label. No condition but the line's length.
-/
import Derived.BigQuiet
import Derived.Deep.RegionHeld3
import Derived.Test.YtpikgebfeleajaaGreatDoorRi7
import Derived.Test.YtpikgebfeleajaaGreatDoorRi8
import Derived.Test.YtpikgebfeleajaaGreatDoorRi2h
namespace Go.Proofs.YtpikgebfeleajaaGreatDoor.I
open Go.RowKit
set_option linter.unusedVariables false
set_option linter.unusedSimpArgs false
attribute [local go_sem] Oper.semAt_some

/-- What take hands back. -/
def TakeR (ws : List (List UInt8)) (w : World) (e : Ending) (w' : World) : Prop :=
  ∃ (x : Ins) (lab : ByteArray), e = .returned (.tuple #[.agg x.cells.toArray, .string lab, .bool (namedT ws).is]) ∧ ((namedT ws).is = true → x = (namedT ws).x ∧ lab = ⟨(namedT ws).lab.toArray⟩) ∧ Below w.heap.size w w'
theorem take_no {ws : List (List UInt8)} {w w' : World} {e : Ending} {x : Ins} {lab : ByteArray} (hf : (namedT ws).is = false) (he : e = .returned (.tuple #[.agg x.cells.toArray, .string lab, .bool false])) (hb : Below w.heap.size w w') : TakeR ws w e w' :=
  ⟨x, lab, (by rw [hf]; exact he), fun h => (by rw [hf] at h; cases h), hb⟩
theorem own_cells {w w' : World} {base L n cap : Nat} {ws : List (List UInt8)} (h : w.ownsRow base 9 1 (.slice (some ⟨L, 0, none⟩) n cap) n (ws.map strV)) (hb : Below w.heap.size w w') {j : Nat} (hj : j < ws.length) (hn : n = ws.length) : w'.cell? ⟨L, j, none⟩ = some (.string ⟨(ws[j]).toArray⟩) := by
  have h1 := h.cellAt j (by omega)
  have h2 : w.cell? ⟨L, j, none⟩ = some (.string ⟨(ws[j]).toArray⟩) := by
    rw [h1, List.getElem?_map, List.getElem?_eq_getElem hj]
    rfl
  have hL : L < w.heap.size := by
    rcases Nat.lt_or_ge L w.heap.size with h3 | h3
    · exact h3
    · unfold World.cell? at h2
      simp only [Array.getElem?_eq_none h3] at h2
      cases h2
  have hx := hb.block L hL
  unfold World.cell? at h2 ⊢
  rw [hx]
  exact h2

set_option maxRecDepth 100000 in
set_option maxHeartbeats 16000000 in
theorem refTake_any (hM : MayC) {w : World} (s : ByteArray) (hs : s.size ≤ 1000000) : Calls Tryz.prog 57 #[.string s] w (TakeR (pieces s.data.toList) w) := by
  have HR0 := Lib.hid (Blk.new w 86 #[.int .i64 0, .int .i64 0, .int .i64 0, .int .i64 0])
  have HB0 := Lib.hid ((Below.refl w.heap.size w).alloc (Nat.le_refl _) (.cells #[.int .i64 0, .int .i64 0, .int .i64 0, .int .i64 0] 86))
  have HSP := Lib.hid (fun W => refSplit_any (w := W) s hs)
  have hne := pieces_ne s.data.toList
  have hln : (pieces s.data.toList).length ≤ 1000001 := by
    have := pieces_lenI s.data.toList
    have e : s.data.toList.length = s.size := rfl
    omega
  have hsz : ∀ x ∈ pieces s.data.toList, x.length ≤ 1000000 := pieces_each (by show s.size ≤ _; exact hs)
  obtain ⟨ws, hws⟩ : ∃ ws, pieces s.data.toList = ws := ⟨_, rfl⟩
  rw [hws] at HSP hne hln hsz ⊢
  obtain ⟨post, hpost⟩ : ∃ post : Ending → World → Prop, TakeR ws w = post := ⟨_, rfl⟩
  rw [hpost]
  have HPOST := Lib.hid hpost
  obtain ⟨w0, wt, hwc⟩ := List.exists_cons_of_ne_nil hne
  have hlp : 1 ≤ ws.length := by rw [hwc]; simp
  obtain ⟨n, hn⟩ : ∃ n, ws.length = n + 1 := ⟨ws.length - 1, by omega⟩
  rw [hn] at HSP
  have HN := Lib.hid hn
  have HSZ := Lib.hid hsz
  have hw0 : ws.getD 0 [] = w0 := by rw [hwc]; rfl
  have HOP := Lib.hid (show opW (ws.getD 0 []) = opW w0 from by rw [hw0])
  have HW0 := Lib.hid (show (⟨(ws[0]'(by omega)).toArray⟩ : ByteArray) = ⟨w0.toArray⟩ from by simp [hwc])
  have hole := opW_le w0
  have HHIT := Lib.hid (fun k (hk : k < 30) => name_hit (l := w0) hk)
  obtain ⟨oo, hoo⟩ : ∃ oo, opW w0 = oo := ⟨_, rfl⟩
  rw [hoo] at HOP HHIT hole
  have hn1 : n ≤ 1000000 := by omega
  clear hpost hws hne hsz hwc hw0 hoo
  go_enter Tryz.func57, Tryz.ntmps57
  go_wp2_with fail
  refine (HSP.out _).mono ?_
  rintro e W1 ⟨v, rfl, hown, hb1⟩
  obtain ⟨L, cap, rfl⟩ := ownsRow_succ' hown
  have HC1 := Lib.hid (fun W (hb : Below W1.heap.size W1 W) j (hj : j < ws.length) => own_cells hown hb hj HN.out.symm)
  have HR1 := Lib.hid (HR0.out.below hb1 HR0.out.lt)
  have HB1 := Lib.hid (bl_step HB0.out hb1)
  have hcp : n + 1 ≤ cap := own_cap hown
  clear HR0 HB0 hb1 hown HSP
  have HX2 := Lib.hid (Blk.new W1 86 #[.int .i64 (-1), .int .i64 0, .int .i64 0, .int .i64 0])
  have HBB2 := Lib.hid ((Below.refl W1.heap.size W1).alloc (Nat.le_refl _) (.cells #[.int .i64 (-1), .int .i64 0, .int .i64 0, .int .i64 0] 86))
  have hRX : w.heap.size < W1.heap.size := HR1.out.lt
  go_wp2_with fail
  go_loopw [7] (fun i wr => ∃ k : Nat, i = .int .i64 (k : Int) ∧ k ≤ 30 ∧ Hid (Below W1.heap.size W1 wr) ∧ Hid (Blk wr W1.heap.size 86 #[.int .i64 (opT oo k), .int .i64 0, .int .i64 0, .int .i64 0])) (fun i _ => 30 - (intOf i).toNat)
  case atStart => exact ⟨0, rfl, by omega, HBB2, HX2⟩
  case round =>
    obtain ⟨k, rfl, hk, HBB, HX⟩ := hrel
    clear HX2 HBB2
    by_cases hk30 : k < 30
    · have hka : (k : Int) < 30 := by omega
      obtain ⟨c0, c1, c2, c3, clt⟩ := ccells HX.out
      have f0 := HX.out.frozen 0
      have HNM := Lib.hid (fun W (hW : Below wr.heap.size wr W) => show Calls Tryz.prog 75 #[.int .i64 (k : Int)] W fun e w' => e = .returned (.string (fN k)) ∧ Below wr.heap.size wr w' from by
        have h := refName_any (w := W) (k : Int)
        rw [fR_in hk30] at h
        exact h.mono fun e w' ⟨he, hb⟩ => ⟨he, bl_step hW hb⟩)
      have HC := Lib.hid (fun W (hW : Below wr.heap.size wr W) => show W.cell? ⟨L, 0, none⟩ = some (.string ⟨w0.toArray⟩) from by
        rw [← HW0.out]
        exact HC1.out W (bl_step HBB.out hW) 0 (by have := HN.out; omega))
      have HXX := Lib.hid (fun W (hW : Below wr.heap.size wr W) => HX.out.below hW HX.out.lt)
      have HIT := Lib.hid (HHIT.out k hk30)
      generalize (⟨w0.toArray⟩ : ByteArray) = sw0 at *
      generalize fN k = nk at *
      have l0 := HC.out wr (Below.refl _ _)
      have hBc := Below.refl wr.heap.size wr
      by_cases hq : nk = sw0
      · have hko := HIT.out.1 hq
        have heq : (nk.toList == sw0.toList) = true := by rw [hq]; simp
        clear hq
        go_upto_region 6 with (fail)
        go_region_held3 (fun W => W.cell? ⟨L, 0, none⟩ = some (.string sw0))
          (first | exact (have h : Below wr.heap.size wr _ := (by repeat (first | assumption | refine Below.drew ?_)); HC.out _ h))
          (first
            | (go_at_call 75; refine (HNM.out _ ?_).mono ?_; (focus (repeat (first | assumption | refine Below.drew ?_))); rintro e V1 ⟨rfl, hV1⟩))
        rename World => wn
        have hbn : Below wr.heap.size wr wn := by assumption
        have HXN := Lib.hid (HXX.out _ hbn)
        have HBN := Lib.hid (bl_step HBB.out hbn)
        clear c0 c1 c2 c3 clt f0
        obtain ⟨c0, c1, c2, c3, clt⟩ := ccells HXN.out
        have f0 := HXN.out.frozen 0
        go_wp2
        go_roundw
        case rel => exact ⟨k + 1, by go_num, by omega, HBN.out.setCell (p := ⟨W1.heap.size, 0, none⟩) (Nat.le_refl _) _, by rw [hko, opT_hit]; exact HXN.out.set_ 0 _⟩
        case measure => simp [intOf]; omega
      · have hko : oo ≠ k := fun e => hq (HIT.out.2 e)
        have heq : (nk.toList == sw0.toList) = false := seq_false hq
        clear hq
        go_upto_region 6 with (fail)
        go_region_held3 (fun W => W.cell? ⟨L, 0, none⟩ = some (.string sw0))
          (first | exact (have h : Below wr.heap.size wr _ := (by repeat (first | assumption | refine Below.drew ?_)); HC.out _ h))
          (first
            | (go_at_call 75; refine (HNM.out _ ?_).mono ?_; (focus (repeat (first | assumption | refine Below.drew ?_))); rintro e V1 ⟨rfl, hV1⟩))
        rename World => wn
        have hbn : Below wr.heap.size wr wn := by assumption
        have HXN := Lib.hid (HXX.out _ hbn)
        have HBN := Lib.hid (bl_step HBB.out hbn)
        clear c0 c1 c2 c3 clt f0
        go_wp2
        go_roundw
        case rel => exact ⟨k + 1, by go_num, by omega, HBN, by rw [opT_miss hko]; exact HXN⟩
        case measure => simp [intOf]; omega
    · obtain rfl : k = 30 := by omega
      clear hk hk30 HHIT HW0
      have HNS := Lib.hid (fun W n => refNames_any (w := W) n)
      by_cases ho : oo < 30
      · have hop : opT oo 30 = (oo : Int) := if_pos ho
        rw [hop] at HX
        have hll := lets_len oo ho
        have HLM := Lib.hid (lets_mem ho)
        have HBAD := Lib.hid (fun i h => namedT_bad (i := i) HOP.out ho h)
        have HLEN := Lib.hid (fun h => namedT_len HOP.out ho (by intro e; have := HN.out; rw [e] at this; simp at this) h)
        have HGOOD := Lib.hid (fun hl s hs => namedT_good HOP.out ho hl (s := s) hs)
        obtain ⟨l, hl⟩ : ∃ l : ByteArray, (⟨(letsI (oo : Int)).toArray⟩ : ByteArray) = l := ⟨_, rfl⟩
        have hld : letsI (oo : Int) = l.data.toList := by rw [← hl]
        have hnm := fun W => HNS.out W (oo : Int)
        rw [hl] at hnm
        have HNL := Lib.hid hnm
        have hlz : l.data.toList.length = l.size := rfl
        rw [hld] at hll HLM HBAD HLEN HGOOD
        rw [hlz] at hll HLEN HGOOD
        have ho0 : ¬ (oo : Int) < 0 := by omega
        have HH0 : Hid (stL (l.data.toList.take 0) (some (nm0 ws)) = some (nm0 ws)) := rfl
        have HX0 : Hid ((nm0 ws).x.cells.toArray = #[.int .i64 (oo : Int), .int .i64 0, .int .i64 0, .int .i64 0]) := by
          show _ = _
          unfold nm0
          rw [HOP.out]
          rfl
        clear hop hl hld hnm hole HNS hlz
        obtain ⟨c0, c1, c2, c3, clt⟩ := ccells HX.out
        have g0 := HR1.out.below HBB.out HR1.out.lt
        by_cases hnl : n = l.size
        · have hnli : ¬ ¬ ((n + 1 : Nat) : Int) = 1 + (l.size : Int) := by omega
          have hnlj : ((n + 1 : Nat) : Int) = 1 + (l.size : Int) := by omega
          have HNL2 := Lib.hid hnl
          subst hnl
          clear g0
          go_wp2_with fail
          refine (HNL.out _).mono ?_
          rintro e W3 ⟨rfl, rfl⟩
          clear HNL
          go_wp2_with fail
          go_loopw [9, 10] (fun v x wr => ∃ (i : Nat) (s : NmS), x = .int .i64 (i : Int) ∧ i ≤ l.size ∧ v = .string ⟨s.lab.toArray⟩ ∧ Hid (stL (l.data.toList.take i) (some (nm0 ws)) = some s) ∧ Hid (Below W1.heap.size W1 wr) ∧ Hid (Blk wr W1.heap.size 86 s.x.cells.toArray)) (fun _ x _ => l.size - (intOf x).toNat)
          case atStart => exact ⟨0, nm0 ws, rfl, Nat.zero_le _, rfl, HH0, HBB, by rw [HX0.out]; exact HX⟩
          case round =>
            obtain ⟨i, st, rfl, hi, rfl, HST, HBB3, HX3⟩ := hrel
            clear c0 c1 c2 c3 clt HX HBB HH0 HX0
            obtain ⟨sws, ⟨xo, xa, xb, xm⟩, slab⟩ := st
            obtain ⟨e1, e2, e3⟩ := stL_rest HST.out
            have hxo : xo = (oo : Int) := by
              have h := e1
              rw [show (nm0 ws).x.op = ((opW (ws.getD 0 []) : Nat) : Int) from rfl, HOP.out] at h
              exact h
            subst hxo
            have hln : ws.length = l.size + 1 := HN.out
            have hlz : l.data.toList.length = l.size := rfl
            rw [show (nm0 ws).ws = ws.tail from rfl, List.length_tail, hln, List.length_take, hlz] at e2
            rw [show (nm0 ws).ws = ws.tail from rfl, List.length_take, hlz] at e3
            dsimp only at e2 e3
            have HX4 : Hid (Blk wr W1.heap.size 86 #[.int .i64 (oo : Int), .int .i64 xa, .int .i64 xb, .int .i64 xm]) := HX3
            clear HX3 e1
            obtain ⟨c0, c1, c2, c3, clt⟩ := ccells HX4.out
            have HRW := Lib.hid (HR1.out.below HBB3.out HR1.out.lt)
            have HBW := Lib.hid (bl_step HB1.out HBB3.out)
            by_cases hil : i < l.size
            · have hka : (i : Int) < (l.size : Int) := by omega
              have hcs : l.data.toList[i]? = some l[i] := by rw [List.getElem?_eq_getElem (by omega), Array.getElem_toList]; rfl
              have hcm := HLM.out l[i] (List.mem_of_getElem? hcs)
              obtain ⟨wd, r, hsw⟩ : ∃ wd r, sws = wd :: r := by
                cases hs : sws with
                | nil => rw [hs] at e2; simp only [List.length_nil] at e2; omega
                | cons a b => exact ⟨a, b, rfl⟩
              have hwd : ws[i + 1]'(by omega) = wd := by
                have h : (ws.tail.drop (min i l.size))[0]? = some wd := by rw [← e3, hsw]; rfl
                rw [List.getElem?_drop, Nat.add_zero, Nat.min_eq_left hi, List.getElem?_tail, List.getElem?_eq_getElem (by omega)] at h
                injection h
              subst hsw
              have HTK := Lib.hid (show stL (l.data.toList.take (i + 1)) (some (nm0 ws)) = stepN (jC l[i]) true ⟨wd :: r, ⟨(oo : Int), xa, xb, xm⟩, slab⟩ from by
                rw [List.take_add_one, hcs]
                show stL (l.data.toList.take i ++ [l[i]]) _ = _
                rw [stL_snoc, HST.out]
                rfl)
              have hwz : wd.length ≤ 1000000 := HSZ.out wd (by rw [← hwd]; exact List.getElem_mem _)
              obtain ⟨sw, hsw⟩ : ∃ sw : ByteArray, (⟨wd.toArray⟩ : ByteArray) = sw := ⟨_, rfl⟩
              have hsd : sw.data.toList = wd := by rw [← hsw]
              have hsz : sw.size ≤ 1000000 := by rw [← hsw]; show wd.toArray.size ≤ _; rw [List.size_toArray]; exact hwz
              have HNUM := Lib.hid (fun W => refNumber_any (w := W) sw hsz)
              have HLAB := Lib.hid (fun W => refLabel_any (w := W) sw hsz)
              rw [hsd] at HNUM HLAB
              obtain ⟨jj, hjj⟩ : ∃ jj, i + 1 = jj := ⟨_, rfl⟩
              have hj1 : 1 + (i : Int) = (jj : Int) := by omega
              have hj2 : (jj : Int) < ((l.size + 1 : Nat) : Int) := by omega
              have hj0 : (0 : Int) ≤ (jj : Int) := by omega
              have HCJ := Lib.hid (fun W (hb : Below W1.heap.size W1 W) => show W.cell? ⟨L, jj, none⟩ = some (.string sw) from by
                have h := HC1.out W hb (i + 1) (by omega)
                rw [hwd, hsw, hjj] at h
                exact h)
              have HSW := Lib.hid hsw
              clear e2 e3 hcs hwd hwz hsz hsd hsw hjj hln hlz HST
              have d0 := HCJ.out wr HBB3.out
              go_wp2_with fail
              refine (HNUM.out _).mono ?_
              rintro e W4 ⟨rfl, hb4⟩
              have HX5 := Lib.hid (HX4.out.below hb4 HX4.out.lt)
              have HR5 := Lib.hid (HRW.out.below hb4 HRW.out.lt)
              have HBB5 := Lib.hid (bl_step HBB3.out hb4)
              have HB5 := Lib.hid (bl_step HBW.out hb4)
              clear d0 c0 c1 c2 c3 clt hb4 HX4 HRW HBB3 HBW HNUM
              obtain ⟨c0, c1, c2, c3, clt⟩ := ccells HX5.out
              have f1 := HX5.out.frozen 1
              have f2 := HX5.out.frozen 2
              have f3 := HX5.out.frozen 3
              have d0 := HCJ.out W4 HBB5.out
              have g0 := HR5.out.frozen 0
              have g1 := HR5.out.frozen 1
              have g2 := HR5.out.frozen 2
              have g3 := HR5.out.frozen 3
              obtain ⟨r0, r1, r2, r3, rlt⟩ := ccells HR5.out
              obtain ⟨nb, hnb⟩ : ∃ nb, numB wd = nb := ⟨_, rfl⟩
              obtain ⟨nv, hnv⟩ : ∃ nv, numN wd = nv := ⟨_, rfl⟩
              obtain ⟨lb, hlb⟩ : ∃ lb, nameB wd = lb := ⟨_, rfl⟩
              rw [hlb] at HLAB
              rw [hnb, hnv]
              have HNB := Lib.hid hnb
              have HNV := Lib.hid hnv
              have HLB := Lib.hid hlb
              clear hnb hnv hlb
              cases nb
              · -- no number
                rcases hcm with hc | hc | hc
                · have hcb : ((l[i].toNat : Int) == 105) = false := by rw [hc]; rfl
                  have HF := Lib.hid (HBAD.out (i + 1) (by rw [HTK.out]; unfold stepN; rw [if_pos rfl]; simp only; rw [HNB.out, if_neg (by simp), if_neg (by rw [hc]; simp [jC])]))
                  clear hc HTK HBAD HGOOD HLEN
                  go_wp2
                  refine bodyPost_ret (results_row_tmp2 Tryz.results57 _ rfl (set4_blk HR5.out _ _ _ _) Tryz.underlying86 rfl (by kernel_rfl)) rfl ?_
                  rw [← HPOST.out]
                  exact take_no (x := ⟨_, _, _, _⟩) HF.out rfl (set4_below HB5.out (Nat.le_refl _) _ _ _ _)
                · have hcb : ((l[i].toNat : Int) == 105) = false := by rw [hc]; rfl
                  have HF := Lib.hid (HBAD.out (i + 1) (by rw [HTK.out]; unfold stepN; rw [if_pos rfl]; simp only; rw [HNB.out, if_neg (by simp), if_neg (by rw [hc]; simp [jC])]))
                  clear hc HTK HBAD HGOOD HLEN
                  go_wp2
                  refine bodyPost_ret (results_row_tmp2 Tryz.results57 _ rfl (set4_blk HR5.out _ _ _ _) Tryz.underlying86 rfl (by kernel_rfl)) rfl ?_
                  rw [← HPOST.out]
                  exact take_no (x := ⟨_, _, _, _⟩) HF.out rfl (set4_below HB5.out (Nat.le_refl _) _ _ _ _)
                · have hcb : ((l[i].toNat : Int) == 105) = true := by rw [hc]; rfl
                  by_cases ho1 : (19 : Int) ≤ (oo : Int)
                  · by_cases ho2 : (oo : Int) ≤ 22
                    · cases lb
                      · have HF := Lib.hid (HBAD.out (i + 1) (by rw [HTK.out]; unfold stepN; rw [if_pos rfl]; simp only; rw [HNB.out, if_neg (by simp), if_neg (by rw [HLB.out]; simp)]))
                        clear hc HTK HBAD HGOOD HLEN
                        go_wp2_with fail
                        refine (HLAB.out _).mono ?_
                        rintro e W6 ⟨rfl, rfl⟩
                        go_wp2
                        refine bodyPost_ret (results_row_tmp2 Tryz.results57 _ rfl (set4_blk HR5.out _ _ _ _) Tryz.underlying86 rfl (by kernel_rfl)) rfl ?_
                        rw [← HPOST.out]
                        exact take_no (x := ⟨_, _, _, _⟩) HF.out rfl (set4_below HB5.out (Nat.le_refl _) _ _ _ _)
                      · have HS6 := Lib.hid (show stL (l.data.toList.take (i + 1)) (some (nm0 ws)) = some ⟨r, ⟨(oo : Int), xa, xb, xm⟩, wd⟩ from by
                          rw [HTK.out]; unfold stepN; rw [if_pos rfl]; simp only
                          rw [HNB.out, if_neg (by simp), if_pos ⟨by rw [hc]; simp [jC], by unfold jmpB; exact decide_eq_true ⟨ho1, ho2⟩, HLB.out⟩])
                        clear hc HTK HBAD HGOOD HLEN
                        go_wp2_with fail
                        refine (HLAB.out _).mono ?_
                        rintro e W6 ⟨rfl, rfl⟩
                        go_wp2
                        go_roundw
                        case rel => exact ⟨i + 1, ⟨r, ⟨(oo : Int), xa, xb, xm⟩, wd⟩, by go_num, by omega, by rw [← HSW.out], HS6, HBB5, HX5⟩
                        case measure => simp [intOf]; omega
                    · have HF := Lib.hid (HBAD.out (i + 1) (by rw [HTK.out]; unfold stepN; rw [if_pos rfl]; simp only; rw [HNB.out, if_neg (by simp), if_neg (by unfold jmpB; simp; omega)]))
                      clear hc HTK HBAD HGOOD HLEN
                      go_wp2
                      refine bodyPost_ret (results_row_tmp2 Tryz.results57 _ rfl (set4_blk HR5.out _ _ _ _) Tryz.underlying86 rfl (by kernel_rfl)) rfl ?_
                      rw [← HPOST.out]
                      exact take_no (x := ⟨_, _, _, _⟩) HF.out rfl (set4_below HB5.out (Nat.le_refl _) _ _ _ _)
                  · have HF := Lib.hid (HBAD.out (i + 1) (by rw [HTK.out]; unfold stepN; rw [if_pos rfl]; simp only; rw [HNB.out, if_neg (by simp), if_neg (by unfold jmpB; simp; omega)]))
                    clear hc HTK HBAD HGOOD HLEN
                    go_wp2
                    refine bodyPost_ret (results_row_tmp2 Tryz.results57 _ rfl (set4_blk HR5.out _ _ _ _) Tryz.underlying86 rfl (by kernel_rfl)) rfl ?_
                    rw [← HPOST.out]
                    exact take_no (x := ⟨_, _, _, _⟩) HF.out rfl (set4_below HB5.out (Nat.le_refl _) _ _ _ _)
              · -- a number
                rcases hcm with hc | hc | hc
                · have hcb : ((l[i].toNat : Int) == 97) = true := by rw [hc]; rfl
                  have hcd : ((l[i].toNat : Int) == 98) = false := by rw [hc]; rfl
                  have HS6 := Lib.hid (show stL (l.data.toList.take (i + 1)) (some (nm0 ws)) = some ⟨r, ⟨(oo : Int), nv, xb, xm⟩, slab⟩ from by
                    rw [HTK.out]; unfold stepN; rw [if_pos rfl]; simp only
                    rw [HNB.out, if_pos rfl, HNV.out, hc]
                    rfl)
                  clear hc HTK HBAD HGOOD HLEN
                  go_wp2
                  go_roundw
                  case rel => exact ⟨i + 1, ⟨r, ⟨(oo : Int), nv, xb, xm⟩, slab⟩, by go_num, by omega, rfl, HS6, HBB5.out.setCell (p := ⟨W1.heap.size, 1, none⟩) (Nat.le_refl _) _, HX5.out.set_ 1 _⟩
                  case measure => simp [intOf]; omega
                · have hcb : ((l[i].toNat : Int) == 97) = false := by rw [hc]; rfl
                  have hcd : ((l[i].toNat : Int) == 98) = true := by rw [hc]; rfl
                  have HS6 := Lib.hid (show stL (l.data.toList.take (i + 1)) (some (nm0 ws)) = some ⟨r, ⟨(oo : Int), xa, nv, xm⟩, slab⟩ from by
                    rw [HTK.out]; unfold stepN; rw [if_pos rfl]; simp only
                    rw [HNB.out, if_pos rfl, HNV.out, hc]
                    rfl)
                  clear hc HTK HBAD HGOOD HLEN
                  go_wp2
                  go_roundw
                  case rel => exact ⟨i + 1, ⟨r, ⟨(oo : Int), xa, nv, xm⟩, slab⟩, by go_num, by omega, rfl, HS6, HBB5.out.setCell (p := ⟨W1.heap.size, 2, none⟩) (Nat.le_refl _) _, HX5.out.set_ 2 _⟩
                  case measure => simp [intOf]; omega
                · have hcb : ((l[i].toNat : Int) == 97) = false := by rw [hc]; rfl
                  have hcd : ((l[i].toNat : Int) == 98) = false := by rw [hc]; rfl
                  have HS6 := Lib.hid (show stL (l.data.toList.take (i + 1)) (some (nm0 ws)) = some ⟨r, ⟨(oo : Int), xa, xb, nv⟩, slab⟩ from by
                    rw [HTK.out]; unfold stepN; rw [if_pos rfl]; simp only
                    rw [HNB.out, if_pos rfl, HNV.out, hc]
                    rfl)
                  clear hc HTK HBAD HGOOD HLEN
                  go_wp2
                  go_roundw
                  case rel => exact ⟨i + 1, ⟨r, ⟨(oo : Int), xa, xb, nv⟩, slab⟩, by go_num, by omega, rfl, HS6, HBB5.out.setCell (p := ⟨W1.heap.size, 3, none⟩) (Nat.le_refl _) _, HX5.out.set_ 3 _⟩
                  case measure => simp [intOf]; omega
            · obtain rfl : i = l.size := by omega
              have hka : ¬ (l.size : Int) < (l.size : Int) := by omega
              have hst := HST.out
              rw [List.take_of_length_le (by omega)] at hst
              have hT := HGOOD.out (by rw [hln]; omega) _ hst
              obtain ⟨q, hq⟩ : ∃ q, decide (MayI ⟨(oo : Int), xa, xb, xm⟩) = q := ⟨_, rfl⟩
              have hT2 : namedT ws = ⟨⟨(oo : Int), xa, xb, xm⟩, slab, q⟩ := by rw [hT, hq]
              have HT := Lib.hid hT2
              have HMY := Lib.hid (fun W (hW : Below wr.heap.size wr W) => show Calls Tryz.prog 74 #[.agg #[.int .i64 (oo : Int), .int .i64 xa, .int .i64 xb, .int .i64 xm]] W fun e w' => e = .returned (.bool q) ∧ Below wr.heap.size wr w' from by
                rw [← hq]
                exact (hM W (oo : Int) xa xb xm).mono fun e w' ⟨he, hb⟩ => ⟨he, bl_step hW hb⟩)
              have HXW := Lib.hid (fun W (hW : Below wr.heap.size wr W) => HX4.out.below hW HX4.out.lt)
              have HRR := Lib.hid (fun W (hW : Below wr.heap.size wr W) => HRW.out.below hW HRW.out.lt)
              have HBR := Lib.hid (fun W (hW : Below wr.heap.size wr W) => bl_step HBW.out hW)
              have HBc := Lib.hid (Below.refl wr.heap.size wr)
              have g0 := HRW.out.frozen 0
              have g1 := HRW.out.frozen 1
              have g2 := HRW.out.frozen 2
              have g3 := HRW.out.frozen 3
              obtain ⟨r0, r1, r2, r3, rlt⟩ := ccells HRW.out
              clear hst hT hT2 hq hln hlz e2 e3 HST HGOOD HLEN HBAD HLM HN HSZ HOP HC1
              obtain ⟨sl, hsl⟩ : ∃ sl : ByteArray, (⟨slab.toArray⟩ : ByteArray) = sl := ⟨_, rfl⟩
              rw [hsl]
              have HSL := Lib.hid hsl
              clear hsl
              go_upto_region 26 with (fail)
              go_region_with (refine (HMY.out _ ?_).mono ?_; (focus (repeat (first | exact HBc.out | refine Below.drew ?_))); rintro e W9 ⟨rfl, hb9⟩; obtain ⟨c0, c1, c2, c3, clt⟩ := ccells (HXW.out _ hb9); have g0 := (HRR.out _ hb9).frozen 0; have g1 := (HRR.out _ hb9).frozen 1; have g2 := (HRR.out _ hb9).frozen 2; have g3 := (HRR.out _ hb9).frozen 3; obtain ⟨r0, r1, r2, r3, rlt⟩ := ccells (HRR.out _ hb9))
              all_goals
                have HR9 := Lib.hid (HRR.out _ hb9)
                have HB9 := Lib.hid (HBR.out _ hb9)
                clear hb9
                go_wp2
                refine bodyPost_ret (results_row_tmp2 Tryz.results57 _ rfl (set4_blk HR9.out _ _ _ _) Tryz.underlying86 rfl (by kernel_rfl)) rfl ?_
                rw [← HPOST.out]
                refine ⟨⟨(oo : Int), xa, xb, xm⟩, sl, (by rw [HT.out]; rfl), fun _ => (by rw [HT.out]; exact ⟨rfl, HSL.out.symm⟩), ?_⟩
                first | exact set4_below HB9.out (Nat.le_refl _) _ _ _ _ | exact (set4_below HB9.out (Nat.le_refl _) _ _ _ _).drew
        · have hnlj : ¬ ((n + 1 : Nat) : Int) = 1 + (l.size : Int) := by omega
          have hnlk : ¬ (n : Int) + 1 = 1 + (l.size : Int) := by omega
          have hnll : ¬ n + 1 = 1 + l.size := by omega
          have HF := Lib.hid (HLEN.out (by have := HN.out; omega))
          have HRW := Lib.hid (HR1.out.below HBB.out HR1.out.lt)
          have HBW := Lib.hid (bl_step HB1.out HBB.out)
          have g0 := HRW.out.frozen 0
          have g1 := HRW.out.frozen 1
          have g2 := HRW.out.frozen 2
          have g3 := HRW.out.frozen 3
          obtain ⟨r0, r1, r2, r3, rlt⟩ := ccells HRW.out
          clear HBAD HGOOD HLEN HLM HN HSZ HOP HC1
          go_wp2_with fail
          refine (HNL.out _).mono ?_
          rintro e W3 ⟨rfl, rfl⟩
          clear HNL
          go_wp2
          all_goals first
            | (exfalso; have hq : 0 ≤ (oo : Int) ∧ (((n : Int) + 1) != 1 + (l.size : Int)) = false := (by assumption); have h2 := hq.2; simp at h2; omega)
            | skip
          refine bodyPost_ret (results_row_tmp2 Tryz.results57 _ rfl (set4_blk HRW.out _ _ _ _) Tryz.underlying86 rfl (by kernel_rfl)) rfl ?_
          rw [← HPOST.out]
          exact take_no (x := ⟨_, _, _, _⟩) HF.out rfl (set4_below HBW.out (Nat.le_refl _) _ _ _ _)
      · have hoo : oo = 30 := by omega
        subst hoo
        have hop : opT 30 30 = -1 := if_neg (by omega)
        rw [hop] at HX
        have HF := Lib.hid (show (namedT ws).is = false from by rw [namedT_op HOP.out])
        have HRW := Lib.hid (HR1.out.below HBB.out HR1.out.lt)
        have HBW := Lib.hid (bl_step HB1.out HBB.out)
        have HNL := Lib.hid (fun W => HNS.out W (-1))
        have g0 := HRW.out.frozen 0
        have g1 := HRW.out.frozen 1
        have g2 := HRW.out.frozen 2
        have g3 := HRW.out.frozen 3
        obtain ⟨r0, r1, r2, r3, rlt⟩ := ccells HRW.out
        obtain ⟨c0, c1, c2, c3, clt⟩ := ccells HX.out
        clear HN HSZ HOP HC1 HNS ho hole
        go_wp2_with fail
        refine (HNL.out _).mono ?_
        rintro e W3 ⟨rfl, rfl⟩
        clear HNL
        go_wp2
        refine bodyPost_ret (results_row_tmp2 Tryz.results57 _ rfl (set4_blk HRW.out _ _ _ _) Tryz.underlying86 rfl (by kernel_rfl)) rfl ?_
        rw [← HPOST.out]
        exact take_no (x := ⟨_, _, _, _⟩) HF.out rfl (set4_below HBW.out (Nat.le_refl _) _ _ _ _)
end Go.Proofs.YtpikgebfeleajaaGreatDoor.I
