/-
  script.Line: the line of an operation. Condition: the tables lie as the program's text, and the library's, lay them.
-/
import Derived.Test.YtgefnicpkfcghaaDoorScO
import Derived.Test.YtgefnicpkfcghaaDoorStr5
namespace Go.Proofs.YtgefnicpkfcghaaDoor
open Go.RowKit Go.Shelf
set_option linter.unusedVariables false
set_option linter.unusedSimpArgs false
attribute [local go_sem] Oper.semAt_some

theorem mayE_yes {x : O} (h : MayO x) : mayE x = 0 := if_pos h
theorem mayE_no {x : O} (h : ¬ MayO x) : mayE x = 200 := if_neg h

set_option maxRecDepth 100000 in
set_option maxHeartbeats 4000000 in
theorem line_no {w : World} (hG : Ground w) (k co nn p s m : Int) (nm : ByteArray) (hr : RangeO ⟨k, co, nn, p, s, m, nm⟩) (hm : ¬ MayO ⟨k, co, nn, p, s, m, nm⟩) :
    Calls Tryd.prog 10 #[.agg #[.int .i64 k, .int .i64 co, .int .i64 nn, .int .i64 p, .int .i64 s, .int .u32 m, .string nm]] w fun e w' => e = .returned (.tuple #[.string ⟨#[]⟩, .int .i64 200]) ∧ Below w.heap.size w w' := by
  have hb0 := (Below.refl w.heap.size w).alloc (Nat.le_refl _) (.cells #[.int .i64 k, .int .i64 co, .int .i64 nn, .int .i64 p, .int .i64 s, .int .u32 m, .string nm] 24)
  have HC := Lib.hid (show Calls Tryd.prog 14 #[.agg #[.int .i64 k, .int .i64 co, .int .i64 nn, .int .i64 p, .int .i64 s, .int .u32 m, .string nm]] _ fun e w' => e = .returned (.int .i64 200) ∧ Below _ _ w' from by
    have h := check_any (hG.below hb0).words ⟨k, co, nn, p, s, m, nm⟩ hr
    rw [mayE_no hm] at h
    exact h)
  have HB0 := Lib.hid hb0
  clear hm hr hG hb0
  go_enter Tryd.func10, Tryd.ntmps10
  go_wp2_with fail
  refine HC.out.mono ?_
  rintro e w1 ⟨rfl, hb1⟩
  have HB1 := Lib.hid (HB0.out.trans (hb1.mono HB0.out.size))
  clear hb1
  go_wp2
  go_ret2
  exact ⟨rfl, HB1.out⟩

/-- The operation, and the words so far. -/
structure LI (w : World) (G : Nat) (x : O) (ws : List (List UInt8)) (v : Value) (W : World) : Prop where
  x : Blk W w.heap.size 24 x.cells.toArray
  l : Boxed W (G + 1) 52 v
  o : W.ownsRow G 9 1 v ws.length (ws.map strV)
  b : Below w.heap.size w W
section
variable {w W W' : World} {G : Nat} {x : O} {ws : List (List UInt8)} {v : Value}
theorem LI.below (h : LI w G x ws v W) (hb : Below W.heap.size W W') : LI w G x ws v W' := ⟨h.x.below hb h.x.lt, Blk.below h.l hb h.l.lt, ownsRow_below h.o hb, h.b.trans (hb.mono h.b.size)⟩
theorem LI.walks {row : Option Nat} {B : Nat} (h : LI w G x ws v W) (hB : w.heap.size ≤ B) (hg : W.grownBy W' row) (hr : ∀ r, row = some r → B ≤ r ∧ ∃ o : Obj, W.heap[r]? = some o ∧ o.isCells = false) : LI w G x ws v W' :=
  ⟨blk_own _ _ (fun _ : Unit => _) () _ _ _ h.x hg (fun r e => (hr r e).2), boxed_own _ _ (fun _ : Unit => _) () _ _ _ h.l hg (fun r e => (hr r e).2), own_walks h.o hg (fun r e => (hr r e).2), h.b.grown hg h.b.size (fun k e => Nat.le_trans hB (hr k e).1)⟩
end
theorem bytes_back (b : ByteArray) : (⟨b.data.toList.toArray⟩ : ByteArray) = b := by
  obtain ⟨d⟩ := b
  simp

set_option maxRecDepth 100000 in
set_option maxHeartbeats 4000000 in
theorem line_yes_in (n : Nat) (hn : 6 ≤ n) {w : World} (hG : Ground w) (k co nn p s m : Int) (nm : ByteArray) (hr : RangeO ⟨k, co, nn, p, s, m, nm⟩) (hm : MayO ⟨k, co, nn, p, s, m, nm⟩) :
    CallsIn Fence.wide n Tryd.prog 10 #[.agg #[.int .i64 k, .int .i64 co, .int .i64 nn, .int .i64 p, .int .i64 s, .int .u32 m, .string nm]] w fun e w' => e = .returned (.tuple #[strV (lineO ⟨k, co, nn, p, s, m, nm⟩), .int .i64 0]) ∧ Below w.heap.size w w' := by
  have h1 : 1 ≤ n := by omega
  obtain ⟨i0, hi, hz0, hz1, hz2⟩ := info_parts infoStr
  have HG := Lib.hid hG
  have HR := Lib.hid hr
  have HM := Lib.hid hm
  clear hG hr hm
  obtain ⟨kw, hkw⟩ : ∃ kw : ByteArray, kw = ⟨(kindW k).toArray⟩ := ⟨_, rfl⟩
  have HN := Lib.hid (fun W (hW : Below w.heap.size w W) => show CallsIn Fence.wide (n - 1) Tryd.prog 15 #[.int .i64 k] W fun e w' => e = .returned (.string kw) ∧ w' = W from by rw [hkw]; exact callsIn_wide.2 (name_any (HG.out.below hW).words k))
  have HC := Lib.hid (fun W (hW : Below w.heap.size w W) => show CallsIn Fence.wide (n - 1) Tryd.prog 14 #[.agg #[.int .i64 k, .int .i64 co, .int .i64 nn, .int .i64 p, .int .i64 s, .int .u32 m, .string nm]] W fun e w' => e = .returned (.int .i64 0) ∧ Below W.heap.size W w' from by
    have h := check_any (HG.out.below hW).words ⟨k, co, nn, p, s, m, nm⟩ HR.out
    rw [mayE_yes HM.out] at h
    exact callsIn_wide.2 h)
  have HKW := Lib.hid hkw
  clear hkw
  have hb0 := (Below.refl w.heap.size w).alloc (Nat.le_refl _) (.cells #[.int .i64 k, .int .i64 co, .int .i64 nn, .int .i64 p, .int .i64 s, .int .u32 m, .string nm] 24)
  have hx0 := Blk.new w 24 #[.int .i64 k, .int .i64 co, .int .i64 nn, .int .i64 p, .int .i64 s, .int .u32 m, .string nm]
  refine callsIn_of_wp_marks Tryd.func10 rfl trivial ?_ rfl
  simp only [Tryd.ntmps10, List.size_toArray, List.length_cons, List.length_nil, Nat.reduceAdd, Nat.reduceSub, Array.replicate_succ, Array.replicate_zero, List.push_toArray, List.append_toArray, List.nil_append, List.cons_append]
  gi_wp2_with fail
  refine ⟨trivial, ?_⟩
  refine (HC.out _ hb0).mono ?_
  rintro e W1 ⟨rfl, hb1⟩
  have hx1 := hx0.below hb1 hx0.lt
  have hB1 := hb0.trans (hb1.mono hb0.size)
  have hlt1 := hx1.lt
  obtain ⟨c0, c1, c2, c3, c4, c5, c6⟩ := ocells hx1
  clear hx0 hb1 hb0
  gi_wp2_with fail
  refine ⟨trivial, ?_⟩
  refine (HN.out _ hB1).mono ?_
  rintro e W2 ⟨rfl, rfl⟩
  gi_wp2_with (refine ⟨trivial, ?_⟩; gi_at_call 26; refine (parts_in (n - 1) _ _).mono ?_; rintro e w' ⟨rfl, rfl⟩)
  obtain ⟨G, hG⟩ : ∃ G, G = W2.heap.size := ⟨_, rfl⟩
  have hwG : w.heap.size < G := by rw [hG]; exact hlt1
  have hX4 := ((hx1.alloc (.cells #[.string kw] 9)).alloc (.cells #[.slice (some ⟨W2.heap.size, 0, none⟩) 1 1] 52)).alloc (.cells #[.int .i64 k] 3)
  have hS4 := ((Blk.new W2 9 #[.string kw]).alloc (.cells #[.slice (some ⟨W2.heap.size, 0, none⟩) 1 1] 52)).alloc (.cells #[.int .i64 k] 3)
  have hL4 := (Blk.new (W2.alloc (.cells #[.string kw] 9)) 52 #[.slice (some ⟨W2.heap.size, 0, none⟩) 1 1]).alloc (.cells #[.int .i64 k] 3)
  have hK4 := Blk.new ((W2.alloc (.cells #[.string kw] 9)).alloc (.cells #[.slice (some ⟨W2.heap.size, 0, none⟩) 1 1] 52)) 3 #[.int .i64 k]
  simp only [World.size_alloc] at hX4 hS4 hL4 hK4
  have hB4 : Below w.heap.size w (((W2.alloc (.cells #[.string kw] 9)).alloc (.cells #[.slice (some ⟨W2.heap.size, 0, none⟩) 1 1] 52)).alloc (.cells #[.int .i64 k] 3)) := bl_new (bl_new (bl_new hB1 _) _) _
  have hs4 : (((W2.alloc (.cells #[.string kw] 9)).alloc (.cells #[.slice (some ⟨W2.heap.size, 0, none⟩) 1 1] 52)).alloc (.cells #[.int .i64 k] 3)).heap.size = W2.heap.size + 3 := by simp
  obtain ⟨W4, hW4⟩ : ∃ W4, (((W2.alloc (.cells #[.string kw] 9)).alloc (.cells #[.slice (some ⟨W2.heap.size, 0, none⟩) 1 1] 52)).alloc (.cells #[.int .i64 k] 3)) = W4 := ⟨_, rfl⟩
  rw [hW4] at hX4 hS4 hL4 hK4 hB4 hs4 ⊢
  rw [← hG] at hS4 hL4 hK4 hs4 ⊢
  clear hW4 hx1 hlt1 c0 c1 c2 c3 c4 c5 c6 hB1 hG
  obtain ⟨X, hX⟩ : ∃ X : O, X = ⟨k, co, nn, p, s, m, nm⟩ := ⟨_, rfl⟩
  have hXc : X.cells = [.int .i64 k, .int .i64 co, .int .i64 nn, .int .i64 p, .int .i64 s, .int .u32 m, .string nm] := by rw [hX]; rfl
  have hO4 : W4.ownsRow G 9 1 (.slice (some ⟨G, 0, none⟩) 1 1) 1 ([kindW k].map strV) := own_of_blk (xs := [kindW k]) (by have h := hS4; rw [HKW.out] at h; exact h) (Nat.le_refl _) (by simp)
  have hI4 : LI w G X (kindW k :: List.map (wordO X) []) (.slice (some ⟨G, 0, none⟩) 1 1) W4 := ⟨by rw [hXc]; exact hX4, hL4, hO4, hB4⟩
  refine wpIn_rangeFunc_ownH rfl h1 (gf := 49) (lb := #[.pointer (some ⟨G + 1 + 1, 0, none⟩)]) rfl trivial (enters_of Tryd.func49 (by kernel_rfl) rfl)
    (parts1_stops (n - 1) (by omega) (G + 1 + 1) k W4 hK4 (fun _ _ => True)) (fun _ _ => trivial) (fun _ _ _ _ _ _ _ _ => trivial) (Below.refl _ _) (fun _ => rfl)
    (fun (pre : List Nat) W => ∃ v, LI w G X (kindW k :: pre.map (wordO X)) v W)
    (fun c pre W => False)
    (fun pre A B row hs hg hr => hs.elim fun v h => ⟨v, h.walks (by omega) hg hr⟩)
    (fun c pre A B row hs hg hr => hs)
    ⟨_, hI4⟩
    (fun b a' W => a' = { tmps := #[.agg #[.int .i64 k, .int .i64 co, .int .i64 nn, .int .i64 p, .int .i64 s, .int .u32 m, .string nm], .pointer (some ⟨w.heap.size, 0, none⟩), .string ⟨#[]⟩, .int .i64 0, .int .i64 0, .pointer (some ⟨G + 1, 0, none⟩), .int .u8 (b : Int), undef, .agg #[.int .i64 k, .int .i64 co, .int .i64 nn, .int .i64 p, .int .i64 s, .int .u32 m, .string nm], .int .i64 0, .int .i64 0, .bool false, undef, .pointer (some ⟨w.heap.size, 0, none⟩), .int .i64 k, .string kw, .slice (some ⟨G, 0, none⟩) 1 1, .pointer (some ⟨w.heap.size, 0, none⟩), .int .i64 k, .func (.func 49) #[] #[.pointer (some ⟨G + 1 + 1, 0, none⟩)], .int .u8 (b : Int), undef, undef, undef, undef, undef, undef, undef, undef, undef, undef, undef, undef, undef, undef], defers := [] })
    (fun b a' _ A B row hs hg hr => hs)
    ?assign ?body ?done ?stop
  case assign =>
    rintro l pre b W K' hI hK'
    simp only [encP] at hK' ⊢
    gi_wp2
    exact hK' _ _ (KeepsFrom.refl _ _) trivial hI rfl
  case body =>
    rintro l pre b a' W hl ⟨r, hr⟩ ⟨v, hI⟩ rfl hlt
    dsimp only
    have HXX := Lib.hid hX
    clear hX
    obtain ⟨sw, hsw⟩ : ∃ sw : ByteArray, sw = ⟨(wordO X b).toArray⟩ := ⟨_, rfl⟩
    have HSW := Lib.hid hsw
    obtain ⟨N, hN⟩ : ∃ N, N = (kindW k :: pre.map (wordO X)).length := ⟨_, rfl⟩
    have hNl : N ≤ 1000001 := by rw [hN]; simp only [List.length_cons, List.length_map]; omega
    have HNN := Lib.hid hN
    clear hsw hN
    have HI := Lib.hid hI
    have hs1 := hI.b.size
    have hwl := hI.x.lt
    have hll := hI.l.lt
    by_cases hb : b = 119
    · subst hb
      have hx6 := (ocells (hXc ▸ hI.x : Blk W w.heap.size _ #[_, _, _, _, _, _, _])).2.2.2.2.2.2
      have hsn : sw = nm := by rw [HSW.out, HXX.out]; exact bytes_back nm
      have hv := hI.l
      have hrow := hI.o
      rw [← HNN.out] at hrow
      have hc := hv.cell
      have hgl : G ≤ W.heap.size := by omega
      clear hI
      rw [← hsn] at hx6
      clear hsn
      gi_wp2_with (gi_at_builtin; refine wpListIn_append_own _ rfl _ _ 52 rfl G 9 i0 _ 1 16 Tryd.underlying52 hi hz0 hz1 hz2 rfl (by decide) _ _ _ rfl (hrow.alloc _) ⟨W.heap.size, 0, none⟩ 1 1 [.string sw] rfl rfl (cells_new _ _ _) (by simp [Value.oneCell']) (by unfold maxLen; omega) (by omega) (by simp; omega) ?_; intro v' w1 hown' hgrow _; obtain ⟨g', cap', rfl⟩ := ownsRow_succ hown'; obtain ⟨hv1, hv2, hr2, hk2, hb2⟩ := hv.appended (by decide) hrow hgl (Nat.le_succ _) hown' hgrow; have hc1 := hv1.cell; have hf1 := hv1.frozen)
      have hx2 := HI.out.x.below hb2 (by omega)
      refine ⟨hk2.from _, trivial, _, ⟨hx2, hv2, ?_, HI.out.b.trans (hb2.mono (by omega))⟩⟩
      have hN2 : N = pre.length + 1 := by rw [HNN.out]; simp
      have hN3 : (kindW k :: (pre ++ [119]).map (wordO X)).length = N + 1 := by rw [hN2]; simp
      have hN4 : (kindW k :: (pre ++ [119]).map (wordO X)).map strV = (kindW k :: pre.map (wordO X)).map strV ++ [.string sw] := by rw [HSW.out]; simp [strV]
      rw [hN3, hN4]
      exact hr2
    · have hbi : ¬ (b : Int) = 119 := by omega
      have hbb : ((b : Int) != 119) = true := by simp; omega
      obtain ⟨gv, hgv⟩ : ∃ gv, gv = getO X b := ⟨_, rfl⟩
      have hvr := get_range HR.out b
      rw [← HXX.out, ← hgv] at hvr
      have hsn : sw = ⟨(Lib.itoa gv).toArray⟩ := by rw [HSW.out, hgv]; unfold wordO; rw [if_neg hb]
      have HGT := Lib.hid (fun V => show CallsIn (Fence.wide.inRound l) (n - 1 - 1 - 1) Tryd.prog 28 #[.agg #[.int .i64 k, .int .i64 co, .int .i64 nn, .int .i64 p, .int .i64 s, .int .u32 m, .string nm], .int .u8 (b : Int)] V fun e w' => e = .returned (.int .i64 gv) ∧ Below V.heap.size V w' from by rw [hgv, HXX.out]; exact callsIn_wide.2 (get_any k co nn p s m nm HR.out.2.2.2.2 b))
      have HIT := Lib.hid (fun V (hV : Below w.heap.size w V) => show CallsIn (Fence.wide.inRound l) (n - 1 - 1 - 1) Tryd.prog 27 #[.int .i64 gv] V fun e w' => e = .returned (.string sw) ∧ Below V.heap.size V w' from by rw [hsn]; exact callsIn_wide.2 (itoa_any (HG.out.below hV).pow gv hvr.1 hvr.2))
      clear hgv hvr hsn
      obtain ⟨x0, x1, x2, x3, x4, x5, x6⟩ := ocells (hXc ▸ hI.x : Blk W w.heap.size _ #[_, _, _, _, _, _, _])
      clear hI
      gi_wp2_with fail
      refine ⟨trivial, fun _ => by omega, (HGT.out _).mono ?_⟩
      rintro e V ⟨rfl, hb3⟩
      have hI3 := HI.out.below hb3
      have hK3 := KeepsOthers.of_grownBy (grownBy_below hb3) (fun j o e => by cases e)
      clear x0 x1 x2 x3 x4 x5 x6 hb3
      gi_wp2_with fail
      refine ⟨trivial, fun _ => by omega, (HIT.out _ hI3.b).mono ?_⟩
      rintro e V4 ⟨rfl, hb4⟩
      have hI4' := hI3.below hb4
      have hK4' := hK3.trans (KeepsOthers.of_grownBy (grownBy_below hb4) (fun j o e => by cases e))
      have hs4' := hb4.size
      have hs3' := hK3.size
      clear hI3 hb4 hK3
      have HI4 := Lib.hid hI4'
      have HK4 := Lib.hid hK4'
      have hv := hI4'.l
      have hrow := hI4'.o
      rw [← HNN.out] at hrow
      have hc := hv.cell
      have hgl : G ≤ V4.heap.size := by omega
      clear hI4' hK4'
      gi_wp2_with (gi_at_builtin; refine wpListIn_append_own _ rfl _ _ 52 rfl G 9 i0 _ 1 16 Tryd.underlying52 hi hz0 hz1 hz2 rfl (by decide) _ _ _ rfl (hrow.alloc _) ⟨V4.heap.size, 0, none⟩ 1 1 [.string sw] rfl rfl (cells_new _ _ _) (by simp [Value.oneCell']) (by unfold maxLen; omega) (by omega) (by simp; omega) ?_; intro v' w1 hown' hgrow _; obtain ⟨g', cap', rfl⟩ := ownsRow_succ hown'; obtain ⟨hv1, hv2, hr2, hk2, hb2⟩ := hv.appended (by decide) hrow hgl (Nat.le_succ _) hown' hgrow; have hc1 := hv1.cell; have hf1 := hv1.frozen)
      have hx2 := HI4.out.x.below hb2 (by omega)
      refine ⟨(HK4.out.trans hk2).from _, trivial, _, ⟨hx2, hv2, ?_, HI4.out.b.trans (hb2.mono (by omega))⟩⟩
      have hN2 : N = pre.length + 1 := by rw [HNN.out]; simp
      have hN3 : (kindW k :: (pre ++ [b]).map (wordO X)).length = N + 1 := by rw [hN2]; simp
      have hN4 : (kindW k :: (pre ++ [b]).map (wordO X)).map strV = (kindW k :: pre.map (wordO X)).map strV ++ [.string sw] := by rw [HSW.out]; simp [strV]
      rw [hN3, hN4]
      exact hr2
  case done =>
    rintro D ys W hD rfl ⟨v, hI⟩ hK
    have hkX : X.k = k := by rw [hX]
    have hxs : kindW k :: (partsL k).map (wordO X) = lineWO X := by unfold lineWO; rw [hkX]
    rw [hxs] at hI
    have hM := HM.out
    have hR := HR.out
    rw [← hX] at hM hR
    have hln : (lineWO X).length ≤ 1000000 := by
      unfold lineWO partsL
      rw [List.length_cons, List.length_map, List.length_map, Array.length_toList]
      have := partsB_size X.k
      have e : (partsB X.k).data.size = (partsB X.k).size := rfl
      omega
    have HJ := Lib.hid (show CallsIn Fence.wide (n - 1) Tryd.prog 29 #[v, .string ⟨#[32]⟩] W fun e w' => e = .returned (strV (lineO X)) ∧ Below W.heap.size W w' from
      callsIn_wide.2 (join_own hI.o (by unfold lineWO; simp) (by have := lineO_len hM hR; show (lineO X).length ≤ _; omega) hln))
    have HL := Lib.hid (show lineO X = lineO ⟨k, co, nn, p, s, m, nm⟩ by rw [hX])
    have hc := hI.l.cell
    have HK := Lib.hid hK
    have HB := Lib.hid hI.b
    have hs5 := hI.b.size
    have hl5 := hI.l.lt
    obtain ⟨sl, hsl⟩ : ∃ sl : ByteArray, sl = ⟨(lineO X).toArray⟩ := ⟨_, rfl⟩
    have hsl2 : strV (lineO X) = .string sl := by rw [hsl]; rfl
    rw [hsl2] at HJ
    have HSL := Lib.hid hsl
    clear hI hK hM hR hkX hxs hX hsl hsl2 hln
    dsimp only
    gi_wp2_with fail
    refine ⟨trivial, HJ.out.mono ?_⟩
    rintro e W8 ⟨rfl, hb8⟩
    have hK8 : W8.heap[D]? = some (.deferred (some [])) := (hb8.block D (Array.getElem?_eq_some_iff.1 HK.out).1).trans HK.out
    have hB8 := HB.out.trans (hb8.mono HB.out.size)
    gi_wp2
    refine ⟨by simp, .inl ⟨_, _, rfl, run_takeDeferred hK8, ?_⟩⟩
    refine ⟨_, results_tmp2 rfl _ _ _, ?_, hB8.trans (belowK_b (w := w) (Nat.le_refl _) W8 D _ _ (by omega) hK8 rfl rfl)⟩
    rw [← HL.out]
    show Ending.returned (.tuple #[.string sl, .int .i64 0]) = _
    rw [HSL.out]
    rfl
  case stop =>
    rintro D c pre W _ _ h _
    exact h.elim

theorem line_yes {w : World} (hG : Ground w) (x : O) (hr : RangeO x) (hm : MayO x) :
    Calls Tryd.prog 10 #[.agg x.cells.toArray] w fun e w' => e = .returned (.tuple #[strV (lineO x), .int .i64 0]) ∧ Below w.heap.size w w' := by
  obtain ⟨k, co, nn, p, s, m, nm⟩ := x
  exact callsIn_wide.1 (line_yes_in 6 (by omega) hG k co nn p s m nm hr hm)
end Go.Proofs.YtgefnicpkfcghaaDoor
