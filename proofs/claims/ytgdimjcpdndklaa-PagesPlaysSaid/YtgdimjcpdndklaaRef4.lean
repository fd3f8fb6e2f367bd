/-
  Walks over the reference of package pages: Clear, Set, Clean. No condition.
-/
import Derived.Test.YtgdimjcpdndklaaRef3
namespace Go.Proofs.Ytgdimjcpdndklaa
open Go.RowKit
set_option linter.unusedVariables false
set_option linter.unusedSimpArgs false

/-! ## the lists -/
def notPage (p : Int) (x : Nat × E) : Bool := !decide ((x.1 : Int) = p)
theorem listN_clear (m : M) (p : Int) : ∀ k s, s + k ≤ 64 → (listN m s k).filter (notPage p) = listN (clearM m p) s k
  | 0, s, _ => rfl
  | k + 1, s, h => by
    rw [listN_snoc, listN_snoc, List.filter_append, listN_clear m p k s (by omega)]
    congr 1
    by_cases hp : ((s + k : Nat) : Int) = p
    · subst hp
      have : clearM m ((s + k : Nat) : Int) (s + k) = none := by
        unfold clearM; rw [if_pos (by omega)]; unfold upd; rw [if_pos (by omega)]
      rw [this]
      cases m (s + k) with
      | none => rfl
      | some x => simp [notPage]
    · have : clearM m p (s + k) = m (s + k) := by
        unfold clearM
        split
        · unfold upd; rw [if_neg (by omega)]
        · rfl
      rw [this]
      cases m (s + k) with
      | none => rfl
      | some x => simp only [List.filter_cons, notPage, hp, decide_false, Bool.not_false, if_true, List.filter_nil]
theorem list_clear (m : M) (p : Int) : (list m).filter (notPage p) = list (clearM m p) := listN_clear m p 64 0 (by omega)
def cleanP (x : Nat × E) : Nat × E := (x.1, cleanE x.2)
theorem listN_cl (m : M) : ∀ k s, (listN m s k).map cleanP = listN (cl m) s k
  | 0, s => rfl
  | k + 1, s => by
    rw [listN_snoc, listN_snoc, List.map_append, listN_cl m k s]
    congr 1
    unfold cl
    cases m (s + k) <;> rfl
theorem list_cl (m : M) : (list m).map cleanP = list (cl m) := listN_cl m 64 0
theorem filterM_next {f : Nat × E → Bool} {l : List (Nat × E)} {k : Nat} {x : Nat × E} (h : l[k]? = some x) : (l.take (k + 1)).filter f = (l.take k).filter f ++ (if f x then [x] else []) := by
  rw [List.take_add_one, h, List.filter_append]
  cases hp : f x <;> simp [hp]
theorem mapM_next {f : Nat × E → Nat × E} {l : List (Nat × E)} {k : Nat} {x : Nat × E} (h : l[k]? = some x) : (l.take (k + 1)).map f = (l.take k).map f ++ [f x] := by
  rw [List.take_add_one, h, List.map_append]; rfl
theorem RT.stored {wr : World} {base rt : Nat} {v v0 : Value} {l : List (Nat × E)} {B : Nat} (hr : Blk wr rt 52 #[v0]) (hb : base ≤ rt) (ho : OwnM wr B v l) (hB : base ≤ B) : RT (wr.setCell ⟨rt, 0, none⟩ v) base rt l := by
  have hne : v.ownBlock ≠ some rt := by
    rcases ho.2 with ⟨rfl, _⟩ | ⟨g, cap, cur, rfl, _, hg, _⟩
    · simp [Value.ownBlock]
    · have := Blk.ne_ (t := 42) hg hr (by decide)
      simp [Value.ownBlock]; exact this
  refine ⟨v, hr.set_ 0 v, ?_, hb, hne⟩
  have hg : wr.grownBy (wr.setCell ⟨rt, 0, none⟩ v) (some rt) := ⟨rfl, rfl, rfl, by simp [World.setCell], fun k hk hkn => Below.heap_setCell wr _ v k (fun e => hkn (by rw [e]))⟩
  have := ho.kept hg (.inr hne)
  refine ⟨this.1, ?_⟩
  rcases this.2 with h0 | ⟨g, cap, cur, h1, h2, h3⟩
  · exact .inl h0
  · exact .inr ⟨g, cap, cur, h1, by omega, h3⟩
theorem RT.but {w w' : World} {base rt : Nat} {l : List (Nat × E)} {S : Nat → Prop} (h : RT w base rt l) (hb : But S w w') (hS : ∀ k, S k → ∃ t cs, Blk w k t cs ∧ t ≠ 52 ∧ t ≠ 42) : RT w' base rt l := by
  obtain ⟨v, h1, h2, h3, h4⟩ := h
  have hn1 : ¬ S rt := fun hs => by
    obtain ⟨t, cs, hk, ht, _⟩ := hS rt hs
    exact (h1.ne_ hk (fun e => ht e.symm)) rfl
  refine ⟨v, h1.but hb hn1, ⟨h2.1, ?_⟩, h3, h4⟩
  rcases h2.2 with h0 | ⟨g, cap, cur, e1, e2, e3, e4⟩
  · exact .inl h0
  · have hn2 : ¬ S g := fun hs => by
      obtain ⟨t, cs, hk, _, ht⟩ := hS g hs
      exact (Blk.ne_ (t := 42) e3 hk (fun e => ht e.symm)) rfl
    exact .inr ⟨g, cap, cur, e1, e2, (hb.block g (Blk.lt (t := 42) e3) hn2).trans e3, e4⟩

/-! ## Clear -/
set_option maxHeartbeats 4000000 in
theorem refClear_any {w : World} {base rt : Nat} {m : M} (h : RT w base rt (list m)) (hbase : base ≤ w.heap.size) (p : Int) : Calls Try.prog 24 #[.pointer (some ⟨rt, 0, none⟩), .int .i64 p] w
    fun e w' => e = .returned (gotV (look m p)) ∧ RT w' base rt (list (clearM m p)) ∧ But (fun k => k = rt) w w' := by
  obtain ⟨i0, hi, hz0, hz1, hz2⟩ := info_parts infoM
  obtain ⟨A, c, hc, hlt, hblk, hA⟩ := h.open_
  have hbr : base ≤ rt := by obtain ⟨v, _, _, h3, _⟩ := h; exact h3
  have HC := Lib.hid (fun W (hW : Below w.heap.size w W) => refGet_any (h.below hW) p)
  have hll := list_len m
  have hfl := list_clear m p
  obtain ⟨y, b, hyb⟩ : ∃ (y : E) (b : Bool), gotV (look m p) = .tuple #[y.val, .bool b] := ⟨_, _, rfl⟩
  rw [hyb] at HC ⊢
  obtain ⟨yf, y1, y2, y3, y4⟩ := y
  generalize list m = l at *
  have hb0 := (Below.refl w.heap.size w).alloc (Nat.le_refl _) (.cells E.zero.arr 29)
  have hx0 := Blk.new w 29 E.zero.arr
  simp only [E.val, E.arr, E.zero] at HC hb0 hx0 ⊢
  have HF := Lib.hid hfl
  have HA := Lib.hid hA
  have HB := Lib.hid hblk
  clear hfl hA hblk hc h hyb
  go_enter Try.func24, Try.ntmps24
  go_wp2_with (go_at_call 36; refine (HC.out _ hb0).mono ?_; rintro e w1 ⟨rfl, hb1⟩)
  have hs1 := hb1.size
  rw [World.size_alloc] at hs1
  have hX := Blk.new w1 29 #[.int .i64 yf, .bool y1, .bool y2, .bool y3, .bool y4]
  have hR := (hx0.below hb1 (by simp)).alloc (.cells #[.int .i64 yf, .bool y1, .bool y2, .bool y3, .bool y4] 29)
  have hBw : Below w.heap.size w (w1.alloc (.cells #[.int .i64 yf, .bool y1, .bool y2, .bool y3, .bool y4] 29)) := (hb0.trans (hb1.mono (by simp))).alloc (by omega) _
  have hsz1 : (w1.alloc (.cells #[.int .i64 yf, .bool y1, .bool y2, .bool y3, .bool y4] 29)).heap.size = w1.heap.size + 1 := World.size_alloc ..
  generalize w1.alloc (.cells #[.int .i64 yf, .bool y1, .bool y2, .bool y3, .bool y4] 29) = W1 at *
  generalize w1.heap.size = bx at *
  have HX := Lib.hid hX
  have HR := Lib.hid hR
  have HSZ := Lib.hid hsz1
  clear hx0 hb0 hb1 HC hX hR hsz1
  go_loopw [8, 9] (fun v i wr => ∃ k : Nat, i = .int .i64 (k : Int) ∧ k ≤ l.length ∧ OwnM wr (bx + 1) v ((l.take k).filter (notPage p)) ∧ Below (bx + 1) W1 wr) (fun _ i _ => l.length - (intOf i).toNat)
  case atStart => exact ⟨0, rfl, Nat.zero_le _, World.ownsRow_nil _ _ _ _, Below.refl _ _⟩
  case round =>
    obtain ⟨k, rfl, hk, hown, hB⟩ := hrel
    have hsz := hB.size
    rw [HSZ.out] at hsz
    have hBwr : Below w.heap.size w wr := hBw.trans (hB.mono (by omega))
    obtain ⟨q0, q1⟩ := rt_cells (HB.out.below hBwr hlt)
    by_cases hkl : k < l.length
    · have hkb : (k : Int) < (l.length : Int) := by omega
      have hxe : l[k]? = some l[k] := List.getElem?_eq_getElem hkl
      have hnx := filterM_next (f := notPage p) hxe
      have hfl : ((l.take k).filter (notPage p)).length ≤ k := Nat.le_trans (List.length_filter_le _ _) (by rw [List.length_take]; omega)
      generalize hgx : l[k] = x at *
      obtain ⟨b', off, rfl, _⟩ := HA.out k x hxe
      obtain ⟨hbl, c0, c1, c2, c3, c4, c5⟩ := mapsAt_here (HA.out.below hBwr) hxe
      generalize (l.take k).filter (notPage p) = sel at *
      have hown0 := hown
      have HO := Lib.hid hown
      by_cases hxp : (x.1 : Int) = p
      · have hb1 : ((x.1 : Int) != p) = false := by simp [hxp]
        rw [show notPage p x = false from by simp [notPage, hxp]] at hnx
        simp only [Bool.false_eq_true, if_false, List.append_nil] at hnx
        have HN := Lib.hid hnx
        obtain ⟨xn, f, e1, e2, e3, e4⟩ := x
        simp only at c0 c1 c2 c3 c4 c5 hb1
        clear hnx hxe hgx hxp hown hown0
        go_wp2
        go_roundw
        case rel => exact ⟨k + 1, by go_num, by omega, by rw [HN.out]; exact HO.out, hB⟩
        case measure => simp [intOf]; omega
      · have hb1 : ((x.1 : Int) != p) = true := by simp [hxp]
        rw [show notPage p x = true from by simp [notPage, hxp]] at hnx
        simp only [if_true] at hnx
        have HN := Lib.hid hnx
        obtain ⟨xn, f, e1, e2, e3, e4⟩ := x
        simp only at c0 c1 c2 c3 c4 c5 hb1
        clear hnx hxe hgx hxp hown
        go_wp2_with (at_builtin; refine wpList_append_own _ rfl _ _ 33 rfl (bx + 1) 42 i0 _ 6 24 Try.underlying33 hi hz0 hz1 hz2 rfl (by decide) _ _ _ rfl (hown0.alloc _) ⟨wr.heap.size, 0, none⟩ 1 1 (mapCells (xn, ⟨f, e1, e2, e3, e4⟩)) rfl rfl (cells_new _ _ _) (by simp [mapCells, Value.oneCell']) (by unfold maxLen; omega) (by omega) (by simp; omega) ?_; intro v' w3 hown' hgrow _)
        go_roundw
        case rel => exact ⟨k + 1, by go_num, by omega, by rw [HN.out]; exact ownM_snoc hown', below_grown (hB.alloc hsz _) hgrow (own_block HO.out) (by simp; omega)⟩
        case measure => simp [intOf]; omega
    · have hkk : k = l.length := by omega
      subst hkk
      rw [List.take_length, HF.out] at hown
      have hRr := HR.out.below hB (by omega)
      have hXr := HX.out.below hB (by omega)
      have hTr := HB.out.below hBwr hlt
      obtain ⟨r0, r1, r2, r3, r4, rlt⟩ := ecells hRr
      obtain ⟨x0, x1, x2, x3, x4, xlt⟩ := ecells hXr
      have g0 := hRr.frozen 0
      have g1 := hRr.frozen 1
      have g2 := hRr.frozen 2
      have g3 := hRr.frozen 3
      have g4 := hRr.frozen 4
      have gt := hTr.frozen 0
      have hn1 : rt ≠ w.heap.size := by omega
      have hn2 : rt ≠ bx := by omega
      have HTR := Lib.hid hTr
      have HRR := Lib.hid hRr
      have HBR := Lib.hid hBwr
      obtain ⟨A', c', rfl, _⟩ := mapsAt_own hown
      have HO := Lib.hid hown
      clear hTr hRr hXr hown hBwr hB
      go_wp2
      have hst := RT.stored HTR.out hbr HO.out (by omega)
      have hfr := HRR.out.far (p := ⟨rt, 0, none⟩) (fun e => hn1 e.symm) (.slice A' (list (clearM m p)).length c')
      have hfin := hfr.entrySet (x := E.zero) (.int .i64 yf) (.bool y1) (.bool y2) (.bool y3) (.bool y4)
      refine bodyPost_ret (results_row_tmp Try.results24 _ rfl hfin Try.underlying29 rfl (by kernel_rfl)) rfl ⟨rfl, ?_, ?_⟩
      · exact hst.but ((But.refl (fun k => k = w.heap.size) _).entrySet (.inl rfl) (.int .i64 yf) (.bool y1) (.bool y2) (.bool y3) (.bool y4)) (fun k hk => by subst hk; exact ⟨_, _, hfr, by decide, by decide⟩)
      · exact ((But.of_below (S := fun k => k = rt) HBR.out).setCell (p := ⟨rt, 0, none⟩) (.inl rfl) _).entrySet (b := w.heap.size) (.inr (Nat.le_refl _)) _ _ _ _ _

/-! ## Clean -/
set_option maxHeartbeats 4000000 in
theorem refClean_any {w : World} {base rt : Nat} {m : M} (h : RT w base rt (list m)) (hbase : base ≤ w.heap.size) : Calls Try.prog 25 #[.pointer (some ⟨rt, 0, none⟩)] w
    fun e w' => e = .returned (.int .i64 (filt E.d (list m)).length) ∧ RT w' base rt (list (cl m)) ∧ But (fun k => k = rt) w w' := by
  obtain ⟨i0, hi, hz0, hz1, hz2⟩ := info_parts infoM
  obtain ⟨A, c, hc, hlt, hblk, hA⟩ := h.open_
  have hbr : base ≤ rt := by obtain ⟨v, _, _, h3, _⟩ := h; exact h3
  have hll := list_len m
  have HD := Lib.hid (refDirty_any hll h)
  have hfl := list_cl m
  have hfd : (filt E.d (list m)).length ≤ 64 := Nat.le_trans (filt_len _ _) hll
  generalize list m = l at *
  have HF := Lib.hid hfl
  have HA := Lib.hid hA
  have HB := Lib.hid hblk
  clear hfl hA hblk hc h
  go_enter Try.func25, Try.ntmps25
  go_wp2_with (go_at_call 37; refine HD.out.mono ?_; rintro e w1 ⟨Ad, cd, rfl, hId, hb1⟩)
  have hs1 := hb1.size
  clear HD hId
  go_loopw [4, 5] (fun v i wr => ∃ k : Nat, i = .int .i64 (k : Int) ∧ k ≤ l.length ∧ OwnM wr w1.heap.size v ((l.take k).map cleanP) ∧ Below w1.heap.size w1 wr) (fun _ i _ => l.length - (intOf i).toNat)
  case atStart => exact ⟨0, rfl, Nat.zero_le _, World.ownsRow_nil _ _ _ _, Below.refl _ _⟩
  case round =>
    obtain ⟨k, rfl, hk, hown, hB⟩ := hrel
    have hsz := hB.size
    have hBwr : Below w.heap.size w wr := hb1.trans (hB.mono (by omega))
    obtain ⟨q0, q1⟩ := rt_cells (HB.out.below hBwr hlt)
    by_cases hkl : k < l.length
    · have hkb : (k : Int) < (l.length : Int) := by omega
      have hxe : l[k]? = some l[k] := List.getElem?_eq_getElem hkl
      have hnx := mapM_next (f := cleanP) hxe
      have hfl : ((l.take k).map cleanP).length ≤ k := by rw [List.length_map, List.length_take]; omega
      generalize hgx : l[k] = x at *
      obtain ⟨b', off, rfl, _⟩ := HA.out k x hxe
      obtain ⟨hbl, c0, c1, c2, c3, c4, c5⟩ := mapsAt_here (HA.out.below hBwr) hxe
      generalize (l.take k).map cleanP = sel at *
      have hown0 := hown
      have HO := Lib.hid hown
      have HN := Lib.hid hnx
      obtain ⟨xn, f, e1, e2, e3, e4⟩ := x
      simp only at c0 c1 c2 c3 c4 c5
      have HNEW := Lib.hid (fun W (hW : W = (wr.alloc (.cells #[.int .i64 xn, .int .i64 f, .bool e1, .bool e2, .bool e3, .bool false] 42)).alloc (.cells #[.int .i64 xn, .int .i64 f, .bool e1, .bool e2, .bool e3, .bool false] 42)) => show ∀ j u, (mapCells (xn, ⟨f, e1, e2, e3, false⟩))[j]? = some u → W.cell? ((⟨wr.heap.size + 1, 0, none⟩ : Addr).add j) = some u from by
        subst hW
        have := cells_new (wr.alloc (.cells #[.int .i64 xn, .int .i64 f, .bool e1, .bool e2, .bool e3, .bool false] 42)) 42 (mapCells (xn, ⟨f, e1, e2, e3, false⟩))
        rw [World.size_alloc] at this
        exact this)
      clear hnx hxe hgx hown
      go_wp2_with (at_builtin; refine wpList_append_own _ rfl _ _ 33 rfl w1.heap.size 42 i0 _ 6 24 Try.underlying33 hi hz0 hz1 hz2 rfl (by decide) _ _ _ rfl ((hown0.alloc _).alloc _) ⟨wr.heap.size + 1, 0, none⟩ 1 1 (mapCells (xn, ⟨f, e1, e2, e3, false⟩)) rfl rfl (HNEW.out _ rfl) (by simp [mapCells, Value.oneCell']) (by unfold maxLen; omega) (by omega) (by simp; omega) ?_; intro v' w3 hown' hgrow _)
      go_roundw
      case rel => exact ⟨k + 1, by go_num, by omega, by rw [HN.out]; exact ownM_snoc hown', below_grown ((hB.alloc hsz _).alloc (by simp; omega) _) hgrow (own_block HO.out) (by simp; omega)⟩
      case measure => simp [intOf]; omega
    · have hkk : k = l.length := by omega
      subst hkk
      rw [List.take_length, HF.out] at hown
      have hTr := HB.out.below hBwr hlt
      have gt := hTr.frozen 0
      obtain ⟨A', c', rfl, _⟩ := mapsAt_own hown
      have HTR := Lib.hid hTr
      have HO := Lib.hid hown
      have HBR := Lib.hid hBwr
      clear hTr hown hBwr hB
      go_wp2
      go_ret
      exact ⟨rfl, RT.stored HTR.out hbr HO.out (by omega), (But.of_below (S := fun k => k = rt) HBR.out).setCell (p := ⟨rt, 0, none⟩) (.inl rfl) _⟩
end Go.Proofs.Ytgdimjcpdndklaa
