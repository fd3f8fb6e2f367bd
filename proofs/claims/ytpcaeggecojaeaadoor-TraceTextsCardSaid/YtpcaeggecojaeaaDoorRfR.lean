/-
  What a line says, in the document's words. No condition but the line's length.
-/
import Derived.Deep.RegionHeld3
import Derived.BigQuiet
import Derived.IntWalk
import Derived.Lib.ItoaMem
import Derived.Test.YtpcaeggecojaeaaDoorRfL
namespace Go.Proofs.YtpcaeggecojaeaaDoor
open Go.RowKit
set_option linter.unusedVariables false
set_option linter.unusedSimpArgs false
attribute [local go_sem] Oper.semAt_some

/-! ## plain -/
def candR (s : List UInt8) : S := ⟨(valL (w0L s) : Nat), (kAt (w1L s) 5 : Nat), if kAt (w1L s) 5 = 1 then (valL (w2L s) : Nat) else 0, (valL (wzL s) : Nat)⟩
theorem val_itoa {p : Int} (h0 : 0 ≤ p) (h1 : p ≤ 4294967295) : ((valL (Lib.itoa p) : Nat) : Int) = p := by
  obtain ⟨u, rfl⟩ := Int.eq_ofNat_of_zero_le h0
  rw [Lib.itoa_nonneg, valL_dec u u (Nat.le_refl _) (by omega)]
theorem candR_line {x : S} (hm : May x) (h0 : 0 ≤ x.v) (hv : x.v ≤ 4294967295) : candR (lineL x) = x := by
  obtain ⟨p, k, c, v⟩ := x
  obtain ⟨p1, p2, k1, k2, hc1, hc2, hk3⟩ := hm
  simp only at *
  obtain ⟨n, rfl⟩ : ∃ n : Nat, k = n := ⟨k.toNat, by omega⟩
  obtain ⟨u, rfl⟩ : ∃ u : Nat, v = u := ⟨v.toNat, by omega⟩
  have hK : kAt (kindW n) 5 = n := kAt_kind (by omega) (by omega)
  by_cases hn : n = 1
  · have hL : lineW ⟨p, n, c, u⟩ = [Lib.itoa p, kindW n, Lib.itoa c, Lib.decDigits u] := lineW_one hn
    have hP := pieces_line ⟨p, n, c, u⟩
    rw [hL] at hP
    have hc := hc1 (by omega)
    unfold candR w0L w1L w2L wzL
    rw [hP]
    show (⟨(valL (Lib.itoa p) : Nat), (kAt (kindW n) 5 : Nat), if kAt (kindW n) 5 = 1 then ((valL (Lib.itoa c) : Nat) : Int) else 0, (valL (Lib.decDigits u) : Nat)⟩ : S) = _
    rw [hK, if_pos hn, val_itoa (by omega) (by omega), val_itoa (by omega) (by omega), valL_dec u u (Nat.le_refl _) (by omega)]
  · have hL : lineW ⟨p, n, c, u⟩ = [Lib.itoa p, kindW n, Lib.decDigits u] := lineW_two hn
    have hP := pieces_line ⟨p, n, c, u⟩
    rw [hL] at hP
    have hc := hc2 (by omega)
    unfold candR w0L w1L w2L wzL
    rw [hP]
    show (⟨(valL (Lib.itoa p) : Nat), (kAt (kindW n) 5 : Nat), if kAt (kindW n) 5 = 1 then _ else 0, (valL (Lib.decDigits u) : Nat)⟩ : S) = _
    rw [hK, if_neg hn, val_itoa (by omega) (by omega), valL_dec u u (Nat.le_refl _) (by omega), hc]
theorem readR_eq (s : List UInt8) : readL s = if May (candR s) ∧ lineL (candR s) = s then some (candR s) else none := by
  by_cases h : May (candR s) ∧ lineL (candR s) = s
  · rw [if_pos h]
    have h1 := read_line h.1 (by unfold candR; simp) (by unfold candR; have := valL_le (wzL s); simp only; omega)
    rw [h.2] at h1
    exact h1
  · rw [if_neg h]
    cases hr : readL s with
    | none => rfl
    | some x =>
      obtain ⟨m1, m2, m3, m4⟩ := read_some hr
      exfalso
      apply h
      rw [← m2, candR_line m1 m3 m4]
      exact ⟨m1, rfl⟩

def lineBy (x : S) : ByteArray := if May x then ⟨(lineL x).toArray⟩ else ⟨#[]⟩
def lineEr (x : S) : Int := if May x then 0 else 210
theorem refLineC {w : World} (x : S) (h0 : 0 ≤ x.v) (hv : x.v ≤ 4294967295) : Calls Tryd.prog 14 #[.agg #[.int .i64 x.p, .int .i64 x.k, .int .i64 x.c, .int .u32 x.v]] w fun e w' => e = .returned (.tuple #[.string (lineBy x), .int .i64 (lineEr x)]) ∧ Below w.heap.size w w' := by
  unfold lineBy lineEr
  obtain ⟨p, k, c, v⟩ := x
  simp only at h0 hv
  by_cases hm : May ⟨p, k, c, v⟩
  · rw [if_pos hm, if_pos hm]
    obtain ⟨k, rfl⟩ : ∃ n : Nat, k = n := ⟨k.toNat, by have := hm.2.2.1; simp only at this; omega⟩
    obtain ⟨v, rfl⟩ : ∃ n : Nat, v = n := ⟨v.toNat, by omega⟩
    exact refLine_yes p c k v (by omega) hm
  · rw [if_neg hm, if_neg hm]
    exact refLine_no p k c v h0 hm

theorem line_case (s : ByteArray) (y : S) (hy : candR s.data.toList = y) : (lineEr y = 0 ∧ lineBy y = s ∧ readL s.data.toList = some y) ∨ (lineEr y = 210 ∧ readL s.data.toList = none) ∨ (lineEr y = 0 ∧ lineBy y ≠ s ∧ readL s.data.toList = none) := by
  rw [readR_eq, hy]
  unfold lineEr lineBy
  by_cases hm : May y
  · by_cases he : lineL y = s.data.toList
    · refine .inl ⟨if_pos hm, ?_, if_pos ⟨hm, he⟩⟩
      rw [if_pos hm, he]
    · refine .inr (.inr ⟨if_pos hm, ?_, if_neg (fun h => he h.2)⟩)
      rw [if_pos hm]
      intro h
      exact he (by rw [← h])
  · exact .inr (.inl ⟨if_neg hm, if_neg (fun h => hm h.1)⟩)

/-! ## the walk -/
theorem own_sliceP {w : World} {base : Nat} {t : TypeId} {s : Nat} {v : Value} {n : Nat} {cs : List Value} (h : w.ownsRow base t s v n cs) (h0 : 0 < n) : ∃ g cap, v = .slice (some ⟨g, 0, none⟩) n cap := by
  rcases h.2 with ⟨_, hz⟩ | ⟨g, cap, cur, hv, _⟩
  · omega
  · exact ⟨g, cap, hv⟩
theorem own_slice0 {w : World} {base : Nat} {t : TypeId} {s : Nat} {v : Value} {n : Nat} {cs : List Value} (h : w.ownsRow base t s v n cs) : ∃ A cap, v = .slice A n cap := by
  rcases h.2 with ⟨h1, hz⟩ | ⟨g, cap, cur, hv, _⟩
  · exact ⟨none, 0, by rw [h1, hz]⟩
  · exact ⟨_, cap, hv⟩
/-- The words of a line lie. -/
def WsAt (W : World) (gl : Nat) (ws : List (List UInt8)) : Prop := gl < W.heap.size ∧ ∀ j, j < ws.length → W.cell? ⟨gl, j, none⟩ = some (.string ⟨(ws.getD j []).toArray⟩)
theorem wsAt_own {w : World} {base L n cap : Nat} {ws : List (List UInt8)} (h : w.ownsRow base 9 1 (.slice (some ⟨L, 0, none⟩) n cap) n (ws.map strV)) (hn : n = ws.length) (h0 : 0 < n) : WsAt w L ws ∧ base ≤ L := by
  have hc : ∀ j, j < ws.length → w.cell? ⟨L, j, none⟩ = some (.string ⟨(ws.getD j []).toArray⟩) := fun j hj => by
    have h1 := h.cellAt j (by omega)
    rw [h1, List.getElem?_map, List.getElem?_eq_getElem hj, List.getD_eq_getElem?_getD, List.getElem?_eq_getElem hj]
    rfl
  refine ⟨⟨?_, hc⟩, ?_⟩
  · have h2 := hc 0 (by omega)
    rcases Nat.lt_or_ge L w.heap.size with h3 | h3
    · exact h3
    · unfold World.cell? at h2
      simp only [Array.getElem?_eq_none h3] at h2
      cases h2
  · rcases h.2 with ⟨_, hz⟩ | ⟨g, cap', cur, hv, hb, _⟩
    · omega
    · injection hv with hv1 _ _
      injection hv1 with hv1
      injection hv1 with hv1 _ _
      omega
theorem WsAt.below {w w' : World} {gl : Nat} {ws : List (List UInt8)} (h : WsAt w gl ws) (hb : Below w.heap.size w w') : WsAt w' gl ws :=
  ⟨Nat.lt_of_lt_of_le h.1 hb.size, fun j hj => by rw [hb.cell h.1]; exact h.2 j hj⟩
theorem WsAt.far {w : World} {gl : Nat} {ws : List (List UInt8)} (h : WsAt w gl ws) {p : Addr} (hp : gl ≠ p.block) (u : Value) : WsAt (w.setCell p u) gl ws :=
  ⟨by simp; exact h.1, fun j hj => by
    have := h.2 j hj
    unfold World.cell? at this ⊢
    rw [Below.heap_setCell _ _ _ _ hp]
    exact this⟩
structure RR (w : World) (gl br bx : Nat) (ws : List (List UInt8)) (p k c v : Int) (W : World) : Prop where
  l : WsAt W gl ws
  r : Blk W br 27 #[.int .i64 0, .int .i64 0, .int .i64 0, .int .u32 0]
  x : Blk W bx 27 #[.int .i64 p, .int .i64 k, .int .i64 c, .int .u32 v]
  b : Below w.heap.size w W
  h1 : gl ≠ bx
  h2 : br ≠ bx
  h3 : w.heap.size ≤ bx
section
variable {w W W' : World} {gl br bx : Nat} {ws : List (List UInt8)} {p k c v : Int}
theorem RR.step (h : RR w gl br bx ws p k c v W) (hb : Below W.heap.size W W') : RR w gl br bx ws p k c v W' :=
  ⟨h.l.below hb, h.r.below hb h.r.lt, h.x.below hb h.x.lt, h.b.trans (hb.mono h.b.size), h.h1, h.h2, h.h3⟩
theorem RR.set1 (h : RR w gl br bx ws p k c v W) (y : Int) : RR w gl br bx ws p y c v (W.setCell ⟨bx, 1, none⟩ (.int .i64 y)) :=
  ⟨h.l.far h.h1 _, h.r.far h.h2 _, h.x.set_ 1 _, h.b.setCell h.h3 _, h.h1, h.h2, h.h3⟩
theorem RR.set2 (h : RR w gl br bx ws p k c v W) (y : Int) : RR w gl br bx ws p k y v (W.setCell ⟨bx, 2, none⟩ (.int .i64 y)) :=
  ⟨h.l.far h.h1 _, h.r.far h.h2 _, h.x.set_ 2 _, h.b.setCell h.h3 _, h.h1, h.h2, h.h3⟩
end

set_option maxRecDepth 100000 in
set_option maxHeartbeats 4000000 in
theorem refRead_short {w : World} (s : ByteArray) (hs : s.size ≤ 1000000) (hl : (pieces s.data.toList).length < 3) :
    Calls Tryd.prog 17 #[.string s] w fun e w' => e = .returned (.tuple #[.agg (seenA none), .int .i64 210]) ∧ Below w.heap.size w w' := by
  have HS := Lib.hid (fun W => refWords_any (w := W) s hs)
  have HB0 := Lib.hid ((Below.refl w.heap.size w).alloc (Nat.le_refl _) (.cells #[.int .i64 0, .int .i64 0, .int .i64 0, .int .u32 0] 27))
  have HR0 := Lib.hid (Blk.new w 27 #[.int .i64 0, .int .i64 0, .int .i64 0, .int .u32 0])
  have h3 : ((pieces s.data.toList).length : Int) < 3 := by omega
  generalize pieces s.data.toList = ws at *
  go_enter Tryd.func17, Tryd.ntmps17
  go_wp2_with fail
  refine (HS.out _).mono ?_
  rintro e w1 ⟨v, rfl, hown, hb⟩
  obtain ⟨A, cap, rfl⟩ := own_slice0 hown
  have HR1 := Lib.hid (HR0.out.below hb HR0.out.lt)
  have HB1 := Lib.hid (HB0.out.trans (hb.mono HB0.out.size))
  clear hb hown HS HR0 HB0
  have g0 := HR1.out.frozen 0
  have g1 := HR1.out.frozen 1
  have g2 := HR1.out.frozen 2
  have g3 := HR1.out.frozen 3
  obtain ⟨r0, r1, r2, r3⟩ := ccells HR1.out
  go_wp2
  exact bodyPost_ret (results_row_tmp Tryd.results17 _ rfl (set4_blk HR1.out _ _ _ _) Tryd.underlying27 rfl (by kernel_rfl)) rfl ⟨rfl, set4_below HB1.out (Nat.le_refl _) _ _ _ _⟩

set_option maxRecDepth 100000 in
set_option maxHeartbeats 8000000 in
theorem refRead_long {w : World} (s : ByteArray) (hs : s.size ≤ 1000000) (hl : ¬ (pieces s.data.toList).length < 3) :
    Calls Tryd.prog 17 #[.string s] w fun e w' => e = .returned (.tuple #[.agg (seenA (readL s.data.toList)), .int .i64 (errN (readL s.data.toList))]) ∧ Below w.heap.size w w' := by
  have HS := Lib.hid (fun W => refWords_any (w := W) s hs)
  have hwl0 : ∀ j, (⟨((pieces s.data.toList).getD j []).toArray⟩ : ByteArray).size ≤ 1000000 := fun j => by
    have h := word_len s.data.toList j
    have e : s.data.toList.length = s.size := by rw [Array.length_toList]; rfl
    have e2 : (⟨((pieces s.data.toList).getD j []).toArray⟩ : ByteArray).size = ((pieces s.data.toList).getD j []).length := by show (_ : List UInt8).toArray.size = _; simp
    omega
  have HRD := Lib.hid (readR_eq s.data.toList)
  obtain ⟨post, hpost⟩ : ∃ post : Ending → World → Prop, post = fun e w' => e = .returned (.tuple #[.agg (seenA (readL s.data.toList)), .int .i64 (errN (readL s.data.toList))]) ∧ Below w.heap.size w w' := ⟨_, rfl⟩
  rw [← hpost]
  have HPOST := Lib.hid hpost
  clear hpost
  have hlen : (pieces s.data.toList).length ≤ 1000001 := by
    rw [pieces_len]
    have := List.count_le_length (a := (32 : UInt8)) (l := s.data.toList)
    have e : s.data.toList.length = s.size := by rw [Array.length_toList]; rfl
    omega
  have HCD := Lib.hid (show candR s.data.toList = ⟨(valL ((pieces s.data.toList).getD 0 []) : Nat), (kAt ((pieces s.data.toList).getD 1 []) 5 : Nat), if kAt ((pieces s.data.toList).getD 1 []) 5 = 1 then (valL ((pieces s.data.toList).getD 2 []) : Nat) else 0, (valL ((pieces s.data.toList).getD ((pieces s.data.toList).length - 1) []) : Nat)⟩ from rfl)
  obtain ⟨ws, hws⟩ : ∃ ws, pieces s.data.toList = ws := ⟨_, rfl⟩
  rw [hws] at HS hl hwl0 hlen HCD
  obtain ⟨N, hn⟩ : ∃ N, ws.length = N := ⟨_, rfl⟩
  obtain ⟨m, hm⟩ : ∃ m, N = m + 1 := ⟨N - 1, by omega⟩
  have HVAL := Lib.hid (fun j W => show Calls Tryd.prog 38 #[.string ⟨(ws.getD j []).toArray⟩] W fun e w' => e = .returned (.int .u64 (valL (ws.getD j []) : Nat)) ∧ w' = W from refValue_any (w := W) _ (hwl0 j))
  rw [hn] at HS HCD
  rw [show N - 1 = m by omega] at HCD
  have HN := Lib.hid hn
  have hb0 := (Below.refl w.heap.size w).alloc (Nat.le_refl _) (.cells #[.int .i64 0, .int .i64 0, .int .i64 0, .int .u32 0] 27)
  have hr0 := Blk.new w 27 #[.int .i64 0, .int .i64 0, .int .i64 0, .int .u32 0]
  have HR0 := Lib.hid hr0
  have HB0 := Lib.hid hb0
  have hN1 : N ≤ 1000001 := by omega
  have hN3 : ¬ (N : Int) < 3 := by omega
  have hmN : (m : Int) < (N : Int) := by omega
  have hN0 : (0 : Int) < (N : Int) := by omega
  have hm0 : (0 : Int) ≤ (m : Int) := by omega
  have hwz : IntKind.i64.wrap ((N : Int) - 1) = (m : Int) := by rw [IntWalk.i64_in _ (by omega)]; omega
  have HM := Lib.hid hm
  clear hl hws hwl0 hlen hn hb0 hr0 hm
  go_enter Tryd.func17, Tryd.ntmps17
  go_wp2_with fail
  refine (HS.out _).mono ?_
  rintro e W2 ⟨v, rfl, hown, hb⟩
  obtain ⟨gl, cap, rfl⟩ := own_sliceP hown (by omega)
  obtain ⟨hws, hgl⟩ := wsAt_own hown HN.out.symm (by omega)
  have hcap : N ≤ cap := by
    rcases hown.2 with ⟨_, hz⟩ | ⟨g, cap', cur, hv, _, _, hnc, _⟩
    · omega
    · injection hv with _ _ h3
      omega
  have HW := Lib.hid hws
  have HR2 := Lib.hid (HR0.out.below hb HR0.out.lt)
  have HB2 := Lib.hid (HB0.out.trans (hb.mono HB0.out.size))
  have HSZ2 := Lib.hid (show w.heap.size ≤ W2.heap.size from HB2.out.size)
  clear hb hown HS HR0 HB0 hgl hws
  obtain ⟨P, hP⟩ : ∃ P, valL (ws.getD 0 []) = P := ⟨_, rfl⟩
  obtain ⟨U, hU⟩ : ∃ U, valL (ws.getD m []) = U := ⟨_, rfl⟩
  obtain ⟨C, hC⟩ : ∃ C, valL (ws.getD 2 []) = C := ⟨_, rfl⟩
  have hPr : P ≤ 4294967295 := hP ▸ valL_le _
  have hUr : U ≤ 4294967295 := hU ▸ valL_le _
  have hCr : C ≤ 4294967295 := hC ▸ valL_le _
  obtain ⟨s0, hs0⟩ : ∃ s0 : ByteArray, (⟨(ws.getD 0 []).toArray⟩ : ByteArray) = s0 := ⟨_, rfl⟩
  obtain ⟨s1, hs1⟩ : ∃ s1 : ByteArray, (⟨(ws.getD 1 []).toArray⟩ : ByteArray) = s1 := ⟨_, rfl⟩
  obtain ⟨s2, hs2⟩ : ∃ s2 : ByteArray, (⟨(ws.getD 2 []).toArray⟩ : ByteArray) = s2 := ⟨_, rfl⟩
  obtain ⟨sz, hsz⟩ : ∃ sz : ByteArray, (⟨(ws.getD m []).toArray⟩ : ByteArray) = sz := ⟨_, rfl⟩
  have V0 := Lib.hid (fun W => by have h := HVAL.out 0 W; rw [hP, hs0] at h; exact h)
  have V2 := Lib.hid (fun W => by have h := HVAL.out 2 W; rw [hC, hs2] at h; exact h)
  have VZ := Lib.hid (fun W => by have h := HVAL.out m W; rw [hU, hsz] at h; exact h)
  have C0 := Lib.hid (fun W (h : WsAt W gl ws) => by have h1 := h.2 0 (by have := HN.out; omega); rw [hs0] at h1; exact h1)
  have C1 := Lib.hid (fun W (h : WsAt W gl ws) => by have h1 := h.2 1 (by have := HN.out; omega); rw [hs1] at h1; exact h1)
  have C2 := Lib.hid (fun W (h : WsAt W gl ws) => by have h1 := h.2 2 (by have := HN.out; omega); rw [hs2] at h1; exact h1)
  have CZ := Lib.hid (fun W (h : WsAt W gl ws) => by have h1 := h.2 m (by have := HN.out; have := HM.out; omega); rw [hsz] at h1; exact h1)
  obtain ⟨q1, hq1⟩ : ∃ q1, ws.getD 1 [] = q1 := ⟨_, rfl⟩
  have HCD2 := HCD
  rw [hP, hU, hC, hq1] at HCD2
  clear HCD
  rw [hq1] at hs1
  have HS1 := Lib.hid hs1
  clear hP hU hC hs0 hs1 hs2 hsz hq1 HVAL
  have c0 := C0.out _ HW.out
  have cz := CZ.out _ HW.out
  have HX4 := Lib.hid (fun X (hX : Below W2.heap.size W2 X) => show X.cell? ⟨gl, 0, none⟩ = some (.string s0) ∧ X.cell? ⟨gl, m, none⟩ = some (.string sz) from ⟨C0.out _ (HW.out.below hX), CZ.out _ (HW.out.below hX)⟩)
  have HRF := Lib.hid (Below.refl W2.heap.size W2)
  have hP0 : (0 : Int) ≤ (P : Int) := by omega
  have hP1 : (P : Int) ≤ 4294967295 := by omega
  have hU0 : (0 : Int) ≤ (U : Int) := by omega
  have hU1 : (U : Int) ≤ 4294967295 := by omega
  have hwP : IntKind.i64.wrap (P : Int) = (P : Int) := IntWalk.i64_in _ (by omega)
  have hwU : IntKind.u32.wrap (U : Int) = (U : Int) := IntWalk.u32_in _ (by omega)
  have hNn : 0 < N := by omega
  have hN00 : ¬ N = 0 := by omega
  have hN01 : ¬ (N : Int) = 0 := by omega
  have hN02 : ¬ (N : Int) ≤ 0 := by omega
  clear c0 cz
  go_upto_region 4 with (fail)
  go_region_held3 (fun X => X.cell? ⟨gl, 0, none⟩ = some (.string s0) ∧ X.cell? ⟨gl, m, none⟩ = some (.string sz))
      (first | exact (have h : Below W2.heap.size W2 _ := (by repeat (first | assumption | exact HRF.out | refine Below.drew ?_ | refine bl_new ?_ _)); HX4.out _ h))
      (first
        | (go_at_call_of 38 (Value.string s0); refine (V0.out _).mono ?_; rintro e _ ⟨rfl, rfl⟩)
        | (go_at_call_of 38 (Value.string sz); refine (VZ.out _).mono ?_; rintro e _ ⟨rfl, rfl⟩))
  all_goals
    have HRR := Lib.hid (show RR w gl w.heap.size W2.heap.size ws P (kAt q1 1 : Nat) 0 U (W2.alloc (.cells #[.int .i64 P, .int .i64 0, .int .i64 0, .int .u32 U] 27)).drew from by
      have e : kAt q1 1 = 0 := by rw [kAt, if_neg (fun h => absurd h.1 (Nat.lt_irrefl 0))]; rfl
      rw [e]
      refine RR.step (W := W2.alloc (.cells #[.int .i64 P, .int .i64 0, .int .i64 0, .int .u32 U] 27)) ?_ (Below.refl _ _).drew
      exact ⟨HW.out.below (bl_new (Below.refl _ W2) _), HR2.out.alloc _, Blk.new _ _ _, bl_new HB2.out _, by have := HW.out.1; omega, by have := HR2.out.lt; omega, HSZ2.out⟩)
    generalize (W2.alloc (.cells #[.int .i64 P, .int .i64 0, .int .i64 0, .int .u32 U] 27)).drew = W3 at *
    generalize W2.heap.size = bx at *
    clear HX4 HRF HW HR2 HB2 HSZ2 V0 VZ C0 CZ hwz hwP hwU
    go_wp2_with fail
    go_loopw [6] (fun i wr => ∃ k : Nat, i = .int .i64 (k : Int) ∧ 1 ≤ k ∧ k ≤ 5 ∧ Hid (RR w gl w.heap.size bx ws P (kAt q1 k : Nat) 0 U wr)) (fun i _ => 5 - (intOf i).toNat)
    case atStart => exact ⟨1, rfl, by omega, by omega, HRR⟩
    case round =>
      obtain ⟨k, rfl, hk1, hk5, HR⟩ := hrel
      clear HRR
      by_cases hk : k ≤ 4
      · have hkb : (k : Int) ≤ 4 := by omega
        have HWD := Lib.hid (fun W => refWord_any (w := W) k hk1 hk)
        go_wp2_with fail
        refine (HWD.out _).mono ?_
        rintro e W4 ⟨rfl, hb4⟩
        have HR4 := Lib.hid (HR.out.step hb4)
        clear hb4 HR HWD
        have c1 := C1.out _ HR4.out.l
        unfold strV
        by_cases hq : kindW k = q1
        · have hb : ((⟨(kindW k).toArray⟩ : ByteArray).toList == s1.toList) = true := seq_true (by rw [← HS1.out, hq])
          have hcx := ccells HR4.out.x
          have hfx := HR4.out.x.frozen 1
          have hlx := HR4.out.x.lt
          have HN := Lib.hid (show kAt q1 (k + 1) = k from by rw [kAt, if_pos ⟨by omega, hq⟩])
          have HRN := Lib.hid (HR4.out.set1 k)
          generalize (⟨(kindW k).toArray⟩ : ByteArray) = sk at *
          clear hq HR4
          go_wp2
          go_roundw
          case rel => exact ⟨k + 1, by go_num, by omega, by omega, by rw [HN.out]; exact HRN⟩
          case measure => simp [intOf]; omega
        · have hb : ((⟨(kindW k).toArray⟩ : ByteArray).toList == s1.toList) = false := seq_false (by rw [← HS1.out]; intro h; injection h with h; exact hq (by simpa using congrArg Array.toList h))
          have HN := Lib.hid (show kAt q1 (k + 1) = kAt q1 k from by rw [kAt, if_neg (fun h => hq h.2)])
          generalize (⟨(kindW k).toArray⟩ : ByteArray) = sk at *
          clear hq
          go_wp2
          go_roundw
          case rel => exact ⟨k + 1, by go_num, by omega, by omega, by rw [HN.out]; exact HR4⟩
          case measure => simp [intOf]; omega
      · have hk' : k = 5 := by omega
        subst hk'
        obtain ⟨kk, hkk⟩ : ∃ kk : Int, ((kAt q1 5 : Nat) : Int) = kk := ⟨_, rfl⟩
        rw [hkk] at HR
        have hcd := HCD2.out
        rw [hkk] at hcd
        by_cases hq : kAt q1 5 = 1
        case pos =>
          have hqb : kk = 1 := by rw [← hkk, hq]; rfl
          rw [if_pos hq] at hcd
          clear hq hkk
          subst hqb
          have hcx := ccells HR.out.x
          have c2 := C2.out _ HR.out.l
          have hC1 : (C : Int) ≤ 4294967295 := by omega
          have hC0 : (0 : Int) ≤ (C : Int) := by omega
          have hwC : IntKind.i64.wrap (C : Int) = (C : Int) := IntWalk.i64_in _ (by omega)
          have HY := Lib.hid hcd
          have hfx := HR.out.x.frozen 2
          have hlx := HR.out.x.lt
          clear hcd
          go_wp2_with fail
          refine (V2.out _).mono ?_
          rintro e w9 ⟨rfl, rfl⟩
          have HRq := Lib.hid (HR.out.set2 C)
          obtain ⟨c', hc'⟩ : ∃ c' : Int, (C : Int) = c' := ⟨_, rfl⟩
          rw [hc'] at HRq HY
          have HCC := Lib.hid hc'
          clear hc'
          go_upto_region 13 with (fail)
          rw [HCC.out]
          clear c2 hcx hfx hlx HR
          generalize w9.setCell ⟨bx, 2, none⟩ (.int .i64 c') = Wq at *
          have HL := Lib.hid (fun W => refLineC (w := W) ⟨(P : Int), 1, c', (U : Int)⟩ (by simp only; omega) (by simp only; omega))
          have hcs := line_case s _ HY.out
          obtain ⟨tb, htb⟩ : ∃ tb, lineBy ⟨(P : Int), 1, c', (U : Int)⟩ = tb := ⟨_, rfl⟩
          obtain ⟨te, hte⟩ : ∃ te, lineEr ⟨(P : Int), 1, c', (U : Int)⟩ = te := ⟨_, rfl⟩
          rw [htb, hte] at HL hcs
          simp only at HL
          have HCS := Lib.hid hcs
          clear hcs htb hte HY HCD2
          obtain ⟨x0, x1, x2, x3⟩ := ccells HRq.out.x
          have hlx := HRq.out.x.lt
          go_wp2_with fail
          refine (HL.out _).mono ?_
          rintro e W8 ⟨rfl, hb8⟩
          have HR8 := Lib.hid (HRq.out.step hb8)
          clear hb8 HRq HL x0 x1 x2 x3 hlx
          obtain ⟨x0, x1, x2, x3⟩ := ccells HR8.out.x
          obtain ⟨r0, r1, r2, r3⟩ := ccells HR8.out.r
          have hlx := HR8.out.x.lt
          have hlr := HR8.out.r.lt
          have g0 := HR8.out.r.frozen 0
          have g1 := HR8.out.r.frozen 1
          have g2 := HR8.out.r.frozen 2
          have g3 := HR8.out.r.frozen 3
          rcases HCS.out with ⟨rfl, heq, hrd⟩ | ⟨rfl, hrd⟩ | ⟨rfl, heq, hrd⟩
          · have hb := seq_true heq
            have HF := Lib.hid hrd
            clear HCS heq hrd
            go_wp2
            exact bodyPost_ret (results_row_tmp Tryd.results17 _ rfl (set4_blk HR8.out.r _ _ _ _) Tryd.underlying27 rfl (by kernel_rfl)) rfl (by rw [HPOST.out, HF.out]; exact ⟨rfl, set4_below HR8.out.b (Nat.le_refl _) _ _ _ _⟩)
          · have HF := Lib.hid hrd
            clear HCS hrd
            go_wp2
            exact bodyPost_ret (results_row_tmp Tryd.results17 _ rfl (set4_blk HR8.out.r _ _ _ _) Tryd.underlying27 rfl (by kernel_rfl)) rfl (by rw [HPOST.out, HF.out]; exact ⟨rfl, set4_below HR8.out.b (Nat.le_refl _) _ _ _ _⟩)
          · have hb := seq_false heq
            have HF := Lib.hid hrd
            clear HCS heq hrd
            go_wp2
            exact bodyPost_ret (results_row_tmp Tryd.results17 _ rfl (set4_blk HR8.out.r _ _ _ _) Tryd.underlying27 rfl (by kernel_rfl)) rfl (by rw [HPOST.out, HF.out]; exact ⟨rfl, set4_below HR8.out.b (Nat.le_refl _) _ _ _ _⟩)
        case neg =>
          have hqb : ¬ kk = 1 := by rw [← hkk]; omega
          rw [if_neg hq] at hcd
          have hcx := ccells HR.out.x
          have HY := Lib.hid hcd
          have HRq := HR
          obtain ⟨c', hc'⟩ : ∃ c' : Int, (0 : Int) = c' := ⟨_, rfl⟩
          rw [hc'] at HRq HY
          clear hq HR hc' hkk hcd
          go_upto_region 13 with (fail)
          clear hcx
          generalize wr = Wq at *
          have HL := Lib.hid (fun W => refLineC (w := W) ⟨(P : Int), kk, c', (U : Int)⟩ (by simp only; omega) (by simp only; omega))
          have hcs := line_case s _ HY.out
          obtain ⟨tb, htb⟩ : ∃ tb, lineBy ⟨(P : Int), kk, c', (U : Int)⟩ = tb := ⟨_, rfl⟩
          obtain ⟨te, hte⟩ : ∃ te, lineEr ⟨(P : Int), kk, c', (U : Int)⟩ = te := ⟨_, rfl⟩
          rw [htb, hte] at HL hcs
          simp only at HL
          have HCS := Lib.hid hcs
          clear hcs htb hte HY HCD2
          obtain ⟨x0, x1, x2, x3⟩ := ccells HRq.out.x
          have hlx := HRq.out.x.lt
          go_wp2_with fail
          refine (HL.out _).mono ?_
          rintro e W8 ⟨rfl, hb8⟩
          have HR8 := Lib.hid (HRq.out.step hb8)
          clear hb8 HRq HL x0 x1 x2 x3 hlx
          obtain ⟨x0, x1, x2, x3⟩ := ccells HR8.out.x
          obtain ⟨r0, r1, r2, r3⟩ := ccells HR8.out.r
          have hlx := HR8.out.x.lt
          have hlr := HR8.out.r.lt
          have g0 := HR8.out.r.frozen 0
          have g1 := HR8.out.r.frozen 1
          have g2 := HR8.out.r.frozen 2
          have g3 := HR8.out.r.frozen 3
          rcases HCS.out with ⟨rfl, heq, hrd⟩ | ⟨rfl, hrd⟩ | ⟨rfl, heq, hrd⟩
          · have hb := seq_true heq
            have HF := Lib.hid hrd
            clear HCS heq hrd
            go_wp2
            exact bodyPost_ret (results_row_tmp Tryd.results17 _ rfl (set4_blk HR8.out.r _ _ _ _) Tryd.underlying27 rfl (by kernel_rfl)) rfl (by rw [HPOST.out, HF.out]; exact ⟨rfl, set4_below HR8.out.b (Nat.le_refl _) _ _ _ _⟩)
          · have HF := Lib.hid hrd
            clear HCS hrd
            go_wp2
            exact bodyPost_ret (results_row_tmp Tryd.results17 _ rfl (set4_blk HR8.out.r _ _ _ _) Tryd.underlying27 rfl (by kernel_rfl)) rfl (by rw [HPOST.out, HF.out]; exact ⟨rfl, set4_below HR8.out.b (Nat.le_refl _) _ _ _ _⟩)
          · have hb := seq_false heq
            have HF := Lib.hid hrd
            clear HCS heq hrd
            go_wp2
            exact bodyPost_ret (results_row_tmp Tryd.results17 _ rfl (set4_blk HR8.out.r _ _ _ _) Tryd.underlying27 rfl (by kernel_rfl)) rfl (by rw [HPOST.out, HF.out]; exact ⟨rfl, set4_below HR8.out.b (Nat.le_refl _) _ _ _ _⟩)
end Go.Proofs.YtpcaeggecojaeaaDoor
