/-
  call.Read: a line's call. Condition: the tables lie as the program's text, and the library's, lay them; the line takes at most a million bytes.
-/
import Derived.Test.YthmjddnccgiinaaDoorCa7
namespace Go.Proofs.YthmjddnccgiinaaDoor
open Go.RowKit Go.Shelf
set_option linter.unusedVariables false
set_option linter.unusedSimpArgs false
attribute [local go_sem] Oper.semAt_some

/-- What Read stands on, besides. -/
structure GroundR (w : World) : Prop where
  g : Ground w
  maxl : MaxL w
  errs : Errs w
theorem GroundR.below {w w' : World} (h : GroundR w) (hb : Below w.heap.size w w') : GroundR w' := ⟨h.g.below hb, h.maxl.below hb, h.errs.below hb⟩
def clA : Option Cl → Array Value
  | some x => x.cells.toArray
  | none => #[.int .i64 0, .int .u32 0, .int .u32 0, .int .u32 0]
def errC {α : Type} : Option α → Int
  | some _ => 0
  | none => 160
/-- The arguments read so far. -/
def preC (n : Int) (ws : List (List UInt8)) (j : Nat) : Cl := ⟨n, if 0 < j then uintV (ws.getD 1 []) else 0, if 1 < j then uintV (ws.getD 2 []) else 0, if 2 < j then uintV (ws.getD 3 []) else 0⟩
/-- The result, the words, the call. -/
structure RI (w : World) (G : Nat) (ws : List (List UInt8)) (y : Cl) (W : World) : Prop where
  r : Blk W w.heap.size 27 #[.int .i64 0, .int .u32 0, .int .u32 0, .int .u32 0]
  l : Blk W (w.heap.size + 1) 9 (ws.map strV).toArray
  x : Blk W G 27 y.cells.toArray
  b : Below w.heap.size w W
  h : w.heap.size + 1 < G
section
variable {w W W' : World} {G : Nat} {ws : List (List UInt8)} {y : Cl}
theorem RI.below (h : RI w G ws y W) (hb : Below W.heap.size W W') : RI w G ws y W' := ⟨h.r.below hb h.r.lt, h.l.below hb h.l.lt, h.x.below hb h.x.lt, bl_step h.b hb, h.h⟩
theorem RI.set (h : RI w G ws y W) {i : Nat} {v : Value} {y' : Cl} (hy : y.cells.toArray.setIfInBounds i v = y'.cells.toArray) : RI w G ws y' (W.setCell ⟨G, i, none⟩ v) :=
  ⟨h.r.far (by have := h.h; show w.heap.size ≠ G; omega) _, h.l.far (by have := h.h; show w.heap.size + 1 ≠ G; omega) _, by rw [← hy]; exact h.x.set_ i v, h.b.setCell (by have := h.h; show w.heap.size ≤ G; omega) _, h.h⟩
theorem RI.word (h : RI w G ws y W) {j : Nat} (hj : j < ws.length) : W.cell? ⟨w.heap.size + 1, j, none⟩ = some (.string ⟨(ws.getD j []).toArray⟩) := by
  rw [h.l.cell]
  rw [List.getElem?_toArray, List.getElem?_map, List.getD_eq_getElem?_getD, List.getElem?_eq_getElem hj]
  rfl
end
theorem preC_set (n : Int) (ws : List (List UInt8)) {j : Nat} (hj : j < 3) : (preC n ws j).cells.toArray.setIfInBounds (1 + j) (.int .u32 (uintV (ws.getD (j + 1) []))) = (preC n ws (j + 1)).cells.toArray := by
  rcases (show j = 0 ∨ j = 1 ∨ j = 2 by omega) with rfl | rfl | rfl <;> rfl
theorem preC_zero (n : Int) (ws : List (List UInt8)) : preC n ws 0 = ⟨n, 0, 0, 0⟩ := rfl
theorem preC_all (n : Int) (ws : List (List UInt8)) : preC n ws (agN n) = ⟨n, argC ws n 0, argC ws n 1, argC ws n 2⟩ := rfl
theorem readC_none {s : List UInt8} (h : ¬ (FitC s ∧ MayC (candC s) ∧ lineC (candC s) = s)) : readC s = none := if_neg h
theorem readC_some {s : List UInt8} (h : FitC s ∧ MayC (candC s) ∧ lineC (candC s) = s) : readC s = some (candC s) := if_pos h

set_option maxRecDepth 100000 in
set_option maxHeartbeats 4000000 in
theorem read_any {w : World} (hG : GroundR w) (s : ByteArray) (hs : s.size ≤ 1000000) :
    Calls Tryd.prog 28 #[.string s] w fun e w' => e = .returned (.tuple #[.agg (clA (readC s.data.toList)), .int .i64 (errC (readC s.data.toList))]) ∧ Below w.heap.size w w' := by
  have hb0 := (Below.refl w.heap.size w).alloc (Nat.le_refl _) (.cells #[.int .i64 0, .int .u32 0, .int .u32 0, .int .u32 0] 27)
  have HS := Lib.hid (split_any (hG.below hb0).maxl s (by omega))
  have HG := Lib.hid hG
  obtain ⟨ws, hws⟩ : ∃ ws, ws = pieces s.data.toList := ⟨_, rfl⟩
  rw [← hws] at HS
  have hlen : ws.length ≤ 1000001 := by
    rw [hws, pieces_len]
    have := List.count_le_length (a := (32 : UInt8)) (l := s.data.toList)
    have e : s.data.toList.length = s.size := by rw [Array.length_toList]; rfl
    omega
  have hlen1 : 0 < ws.length := by rw [hws, pieces_len]; omega
  have HWL := Lib.hid (fun j => show ((⟨(ws.getD j []).toArray⟩ : ByteArray)).size ≤ 1000000 from by
    have h := word_len s.data.toList j
    rw [← hws] at h
    have e : s.data.toList.length = s.size := by rw [Array.length_toList]; rfl
    show (ws.getD j []).length ≤ _
    omega)
  have HWS := Lib.hid hws
  clear hws hG
  obtain ⟨post, hpost⟩ : ∃ post : Ending → World → Prop, post = fun e w' => e = .returned (.tuple #[.agg (clA (readC s.data.toList)), .int .i64 (errC (readC s.data.toList))]) ∧ Below w.heap.size w w' := ⟨_, rfl⟩
  rw [← hpost]
  have HPOST := Lib.hid hpost
  clear hpost
  have hr1 := (Blk.new w 27 #[.int .i64 0, .int .u32 0, .int .u32 0, .int .u32 0]).alloc (.cells (ws.map strV).toArray 9)
  have hl1 := Blk.new (w.alloc (.cells #[.int .i64 0, .int .u32 0, .int .u32 0, .int .u32 0] 27)) 9 (ws.map strV).toArray
  have hB1 := bl_new hb0 (.cells (ws.map strV).toArray 9)
  simp only [World.size_alloc] at hl1 HS
  obtain ⟨q0, hq0⟩ : ∃ q0, q0 = ws.getD 0 [] := ⟨_, rfl⟩
  have hc0 : ((w.alloc (.cells #[.int .i64 0, .int .u32 0, .int .u32 0, .int .u32 0] 27)).alloc (.cells (ws.map strV).toArray 9)).cell? ⟨w.heap.size + 1, 0, none⟩ = some (.string ⟨q0.toArray⟩) := by
    rw [hl1.cell, List.getElem?_toArray, List.getElem?_map, hq0, List.getD_eq_getElem?_getD, List.getElem?_eq_getElem hlen1]
    rfl
  obtain ⟨s0, hs0⟩ : ∃ s0 : ByteArray, s0 = ⟨q0.toArray⟩ := ⟨_, rfl⟩
  rw [← hs0] at hc0
  obtain ⟨nn, hnn⟩ : ∃ nn, nn = byN q0 := ⟨_, rfl⟩
  have HBN := Lib.hid (fun W (hW : Below w.heap.size w W) => (byName_any (HG.out.below hW).g.laid s0).mono fun e w' h => show e = .returned (.int .i64 (nn : Int)) ∧ Below W.heap.size W w' from by
    obtain ⟨r, h1, h2, h3⟩ := h
    have h4 := byN_of h2
    rw [hs0] at h4
    rw [hnn]
    exact ⟨by rw [h1, h4], h3⟩)
  obtain ⟨km, hkm⟩ : ∃ km, km = kM (kR (nn : Int)) := ⟨_, rfl⟩
  have HM := Lib.hid (fun W (hW : Below w.heap.size w W) => (many_any (HG.out.below hW).g.laid (nn : Int)).mono fun e w' h => show e = .returned (.int .i64 km) ∧ Below W.heap.size W w' from by rw [hkm]; exact h)
  have hkr : -1 ≤ km ∧ km ≤ 3 := by rw [hkm]; exact kM_range (kR_lt _)
  obtain ⟨hk1, hk2⟩ := hkr
  have HFIT := Lib.hid (show FitC s.data.toList ↔ (ws.length : Int) = 1 + km from by unfold FitC; rw [← HWS.out, ← hq0, ← hnn, ← hkm])
  have HCAND := Lib.hid (show candC s.data.toList = preC (nn : Int) ws (agN (nn : Int)) from by unfold candC; rw [← HWS.out, ← hq0, ← hnn]; rfl)
  have hag : agN (nn : Int) = km.toNat := by unfold agN; rw [← hkm]
  have hgt : w.heap.size + 1 < ((w.alloc (.cells #[.int .i64 0, .int .u32 0, .int .u32 0, .int .u32 0] 27)).alloc (.cells (ws.map strV).toArray 9)).heap.size := by simp
  have hl0 : (0 : Int) < (ws.length : Int) := by omega
  clear hq0 hs0 hnn hkm hb0
  go_enter Tryd.func28, Tryd.ntmps28
  go_wp2_with fail
  refine HS.out.mono ?_
  rintro e w1 ⟨rfl, rfl⟩
  generalize (w.alloc (.cells #[.int .i64 0, .int .u32 0, .int .u32 0, .int .u32 0] 27)).alloc (.cells (ws.map strV).toArray 9) = W1 at *
  clear HS
  go_wp2_with fail
  refine (HBN.out _ hB1).mono ?_
  rintro e W2 ⟨rfl, hb2⟩
  have hs2 := hb2.size
  have hRI : RI w W2.heap.size ws ⟨(nn : Int), 0, 0, 0⟩ (W2.alloc (.cells #[.int .i64 (nn : Int), .int .u32 0, .int .u32 0, .int .u32 0] 27)) :=
    ⟨(hr1.below hb2 hr1.lt).alloc _, (hl1.below hb2 hl1.lt).alloc _, Blk.new _ _ _, bl_new (bl_step hB1 hb2) _, by omega⟩
  clear hr1 hl1 hB1 hb2 hc0 HBN hgt hs2
  have HRI := Lib.hid hRI
  clear hRI
  go_wp2_with fail
  refine (HM.out _ HRI.out.b).mono ?_
  rintro e W4 ⟨rfl, hb4⟩
  have hR4 := HRI.out.below hb4
  clear hb4 HRI HM
  generalize W2.heap.size = G at *
  by_cases hfit : (ws.length : Int) = 1 + km
  case neg =>
    have hn := readC_none (s := s.data.toList) (fun h => hfit (HFIT.out.1 h.1))
    have HP2 := Lib.hid (show post = fun e w' => e = .returned (.tuple #[.agg #[.int .i64 0, .int .u32 0, .int .u32 0, .int .u32 0], .int .i64 160]) ∧ Below w.heap.size w w' from by rw [HPOST.out, hn]; rfl)
    have hbn : ((ws.length : Int) != 1 + km) = true := by simpa using hfit
    have HR4 := Lib.hid hR4
    obtain ⟨r0, r1, r2, r3, rlt⟩ := ccells hR4.r
    have g0 := hR4.r.frozen 0
    have g1 := hR4.r.frozen 1
    have g2 := hR4.r.frozen 2
    have g3 := hR4.r.frozen 3
    clear hn HPOST hR4 hag
    go_wp2
    rw [HP2.out]
    exact bodyPost_ret (results_row_tmp Tryd.results28 _ rfl (set4_blk HR4.out.r (.int .i64 0) (.int .u32 0) (.int .u32 0) (.int .u32 0)) Tryd.underlying27 rfl (by kernel_rfl)) rfl ⟨rfl, set4_below HR4.out.b (by omega) _ _ _ _⟩
  case pos =>
    have hbf : ((ws.length : Int) != 1 + km) = false := by simpa using hfit
    have hkl : ws.length = 1 + agN (nn : Int) := by omega
    have HHAG := Lib.hid hag
    have HFT := Lib.hid (HFIT.out.2 hfit)
    have HR4 := Lib.hid hR4
    have hl1i : (1 : Int) ≤ (ws.length : Int) := by omega
    obtain ⟨M, hM⟩ : ∃ M : Nat, M = agN (nn : Int) := ⟨_, rfl⟩
    rw [← hM] at hag hkl
    have HMM := Lib.hid hM
    have hkM : km = (M : Int) := by omega
    clear hag hM
    subst hkM
    clear hbf hfit HFIT hk1
    have hM3 : M ≤ 3 := by omega
    have hbf : ((ws.length : Int) != 1 + (M : Int)) = false := by simp; omega
    by_cases hM0 : M = 0
    all_goals
      go_wp2
      go_loopw [30] (fun i wr => ∃ j : Nat, i = .int .i64 (j : Int) ∧ j ≤ M ∧ RI w G ws (preC (nn : Int) ws j) wr) (fun i _ => M - (intOf i).toNat)
      case atStart => exact ⟨0, rfl, by omega, HR4.out⟩
      case round =>
        obtain ⟨j, rfl, hj, hR⟩ := hrel
        by_cases hjM : j < M
        · first
          | exact absurd hjM (by omega)
          | (have hjb : (j : Int) < (M : Int) := by omega
             have hj3 : j < 3 := by omega
             have hw := hR.word (j := 1 + j) (by omega)
             have hwl := HWL.out (1 + j)
             have hset := preC_set (nn : Int) ws hj3
             have hvr := uintV_range (ws.getD (1 + j) [])
             rw [Nat.add_comm j 1] at hset
             obtain ⟨sj, hsj⟩ : ∃ sj : ByteArray, sj = ⟨(ws.getD (1 + j) []).toArray⟩ := ⟨_, rfl⟩
             have hul : uintV (ws.getD (1 + j) []) = uintV sj.data.toList := by rw [hsj]
             rw [hul] at hset hvr
             rw [← hsj] at hw hwl
             have HPU := Lib.hid (fun W (hW : Below w.heap.size w W) => parse32_any (HG.out.below hW).errs sj (by omega))
             generalize uintV sj.data.toList = v at *
             obtain ⟨hv0, hv1⟩ := hvr
             have hcv : IntKind.u32.wrap v = v := Int.emod_eq_of_lt hv0 (by show v < 4294967296; omega)
             have hcv2 : v % 4294967296 = v := Int.emod_eq_of_lt hv0 (by omega)
             have HSET := Lib.hid hset
             have HR := Lib.hid hR
             clear hsj hul hwl hset hR
             go_wp2_with fail
             refine (HPU.out _ HR.out.b).mono ?_
             rintro e W5 ⟨er, rfl, hb5⟩
             have hR5 := HR.out.below hb5
             clear hw hb5
             obtain ⟨u, hu⟩ : ∃ u, W5.cell? ⟨G, 1 + j, none⟩ = some u := by rw [hR5.x.cell]; exact ⟨_, Array.getElem?_eq_getElem (by show 1 + j < 4; omega)⟩
             have hf := hR5.x.frozen (1 + j)
             have hlt := hR5.x.lt
             have HR5 := Lib.hid hR5
             clear hR5
             go_wp2
             go_roundw
             case rel => exact ⟨1 + j, by go_num, by omega, HR5.out.set HSET.out⟩
             case measure => simp [intOf]; omega)
        · have hjM' : j = M := by omega
          rw [hjM'] at hR
          have hcand : candC s.data.toList = preC (nn : Int) ws M := by rw [HCAND.out, ← HMM.out]
          obtain ⟨p0, p1, p2, hpc⟩ : ∃ p0 p1 p2 : Int, preC (nn : Int) ws M = ⟨(nn : Int), p0, p1, p2⟩ := ⟨_, _, _, rfl⟩
          rw [hpc] at hR hcand
          have hrg := cand_range s.data.toList
          rw [hcand] at hrg
          have hx := ccells (show Blk wr G 27 #[.int .i64 (nn : Int), .int .u32 p0, .int .u32 p1, .int .u32 p2] from hR.x)
          obtain ⟨x0, x1, x2, x3, xlt⟩ := hx
          have HR := Lib.hid hR
          have HCA := Lib.hid hcand
          clear hR hcand hpc
          by_cases hm : MayC ⟨(nn : Int), p0, p1, p2⟩
          · have HLY := Lib.hid (fun W (hW : Below w.heap.size w W) => line_yes (HG.out.below hW).g (nn : Int) p0 p1 p2 hrg hm)
            obtain ⟨sl, hsl⟩ : ∃ sl : ByteArray, sl = ⟨(lineC ⟨(nn : Int), p0, p1, p2⟩).toArray⟩ := ⟨_, rfl⟩
            rw [← hsl] at HLY
            by_cases he : sl = s
            · have hb := seq_true he
              have hl : lineC ⟨(nn : Int), p0, p1, p2⟩ = s.data.toList := by rw [← he, hsl]
              have hn := readC_some (s := s.data.toList) ⟨HFT.out, by rw [HCA.out]; exact hm, by rw [HCA.out]; exact hl⟩
              have HP2 := Lib.hid (show post = fun e w' => e = .returned (.tuple #[.agg #[.int .i64 (nn : Int), .int .u32 p0, .int .u32 p1, .int .u32 p2], .int .i64 0]) ∧ Below w.heap.size w w' from by rw [HPOST.out, hn, HCA.out]; rfl)
              clear hsl he hl hn hm hrg
              go_wp2_with fail
              refine (HLY.out _ HR.out.b).mono ?_
              rintro e W5 ⟨rfl, hb5⟩
              have hR5 := HR.out.below hb5
              clear x0 x1 x2 x3 xlt hb5
              obtain ⟨x0, x1, x2, x3, xlt⟩ := ccells (show Blk W5 G 27 #[.int .i64 (nn : Int), .int .u32 p0, .int .u32 p1, .int .u32 p2] from hR5.x)
              obtain ⟨r0, r1, r2, r3, rlt⟩ := ccells hR5.r
              have g0 := hR5.r.frozen 0
              have g1 := hR5.r.frozen 1
              have g2 := hR5.r.frozen 2
              have g3 := hR5.r.frozen 3
              have HR5 := Lib.hid hR5
              clear hR5
              go_wp2
              rw [HP2.out]
              exact bodyPost_ret (results_row_tmp Tryd.results28 _ rfl (set4_blk HR5.out.r (.int .i64 (nn : Int)) (.int .u32 p0) (.int .u32 p1) (.int .u32 p2)) Tryd.underlying27 rfl (by kernel_rfl)) rfl ⟨rfl, set4_below HR5.out.b (by omega) _ _ _ _⟩
            · have hb := seq_false he
              have hn := readC_none (s := s.data.toList) (fun h => he (by rw [hsl, ← HCA.out, h.2.2]))
              have HP2 := Lib.hid (show post = fun e w' => e = .returned (.tuple #[.agg #[.int .i64 0, .int .u32 0, .int .u32 0, .int .u32 0], .int .i64 160]) ∧ Below w.heap.size w w' from by rw [HPOST.out, hn]; rfl)
              clear hsl he hn hm hrg
              go_wp2_with fail
              refine (HLY.out _ HR.out.b).mono ?_
              rintro e W5 ⟨rfl, hb5⟩
              have hR5 := HR.out.below hb5
              clear x0 x1 x2 x3 xlt hb5
              obtain ⟨r0, r1, r2, r3, rlt⟩ := ccells hR5.r
              have g0 := hR5.r.frozen 0
              have g1 := hR5.r.frozen 1
              have g2 := hR5.r.frozen 2
              have g3 := hR5.r.frozen 3
              have HR5 := Lib.hid hR5
              clear hR5
              go_wp2
              rw [HP2.out]
              exact bodyPost_ret (results_row_tmp Tryd.results28 _ rfl (set4_blk HR5.out.r (.int .i64 0) (.int .u32 0) (.int .u32 0) (.int .u32 0)) Tryd.underlying27 rfl (by kernel_rfl)) rfl ⟨rfl, set4_below HR5.out.b (by omega) _ _ _ _⟩
          · have HLN := Lib.hid (fun W (hW : Below w.heap.size w W) => line_no (HG.out.below hW).g (nn : Int) p0 p1 p2 hm)
            have hn := readC_none (s := s.data.toList) (fun h => hm (by rw [← HCA.out]; exact h.2.1))
            have HP2 := Lib.hid (show post = fun e w' => e = .returned (.tuple #[.agg #[.int .i64 0, .int .u32 0, .int .u32 0, .int .u32 0], .int .i64 160]) ∧ Below w.heap.size w w' from by rw [HPOST.out, hn]; rfl)
            clear hn hm hrg
            go_wp2_with fail
            refine (HLN.out _ HR.out.b).mono ?_
            rintro e W5 ⟨rfl, hb5⟩
            have hR5 := HR.out.below hb5
            clear x0 x1 x2 x3 xlt hb5
            obtain ⟨r0, r1, r2, r3, rlt⟩ := ccells hR5.r
            have g0 := hR5.r.frozen 0
            have g1 := hR5.r.frozen 1
            have g2 := hR5.r.frozen 2
            have g3 := hR5.r.frozen 3
            have HR5 := Lib.hid hR5
            clear hR5
            go_wp2
            rw [HP2.out]
            exact bodyPost_ret (results_row_tmp Tryd.results28 _ rfl (set4_blk HR5.out.r (.int .i64 0) (.int .u32 0) (.int .u32 0) (.int .u32 0)) Tryd.underlying27 rfl (by kernel_rfl)) rfl ⟨rfl, set4_below HR5.out.b (by omega) _ _ _ _⟩
end Go.Proofs.YthmjddnccgiinaaDoor
