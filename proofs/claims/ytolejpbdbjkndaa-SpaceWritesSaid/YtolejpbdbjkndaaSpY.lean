/-
  The law's counts: frames' counts are how many pages have them. Condition: frames and spaces lie in blocks of their own; counts are how many pages there are.
-/
import Derived.Test.YtolejpbdbjkndaaSpV
import Derived.Test.YtolejpbdbjkndaaSpW
namespace Go.Proofs.Ytolejpbdbjkndaa
open Go.RowKit Go.Shelf Go.Deep
set_option linter.unusedVariables false
set_option linter.unusedSimpArgs false
attribute [local go_sem] Oper.semAt_some

/-- How many of the first j have frame k. -/
def cntL (l : List (Nat × E)) (k : Nat) : Nat → Nat
  | 0 => 0
  | j + 1 => cntL l k j + (match l[j]? with | some y => if y.2.f = (k : Int) then 1 else 0 | none => 0)
theorem cntL_le (l : List (Nat × E)) (k : Nat) : ∀ j, cntL l k j ≤ j
  | 0 => Nat.le_refl _
  | j + 1 => by
    have := cntL_le l k j
    rw [cntL]
    split
    · split <;> omega
    · omega
theorem cntL_app (l : List (Nat × E)) (y : Nat × E) (k : Nat) : ∀ j, j ≤ l.length → cntL (l ++ [y]) k j = cntL l k j
  | 0, _ => rfl
  | j + 1, h => by rw [cntL, cntL, cntL_app l y k j (by omega), List.getElem?_append_left (by omega)]
theorem cntL_whole (m : M) (k : Nat) : ∀ n, cntL (listN m 0 n) k (listN m 0 n).length = cntF m k n
  | 0 => rfl
  | n + 1 => by
    have ih := cntL_whole m k n
    rw [listN_snoc, Nat.zero_add, cntF]
    cases hm : m n with
    | none => simp only [List.append_nil]; rw [ih]; rfl
    | some x =>
      simp only
      rw [List.length_append, List.length_singleton, cntL, cntL_app _ _ _ _ (Nat.le_refl _), ih, List.getElem?_append_right (Nat.le_refl _), Nat.sub_self]
      rfl
/-- Counts as cells. -/
def cntC (n : Nat) (f : Nat → Nat) : List Value := (List.range n).map fun k => .int .i64 ((f k : Nat) : Int)
theorem cntC_len (n : Nat) (f : Nat → Nat) : (cntC n f).length = n := by unfold cntC; rw [List.length_map, List.length_range]
theorem cntC_get {n k : Nat} (f : Nat → Nat) (h : k < n) : (cntC n f)[k]? = some (.int .i64 ((f k : Nat) : Int)) := by
  unfold cntC
  rw [List.getElem?_map, List.getElem?_range h]; rfl
theorem cntC_set {n k : Nat} {f f' : Nat → Nat} (h : ∀ j, j < n → f' j = if j = k then f k + 1 else f j) : (cntC n f).set k (.int .i64 (((f k : Nat) : Int) + 1)) = cntC n f' := by
  unfold cntC
  rw [range_map_set]
  refine List.map_congr_left fun j hj => ?_
  rw [h j (List.mem_range.1 hj)]
  by_cases e : j = k
  · subst e; rw [if_pos rfl, if_pos rfl]; congr 1
  · rw [if_neg e, if_neg e]
theorem cntC_ext {n : Nat} {f f' : Nat → Nat} (h : ∀ j, j < n → f' j = f j) : cntC n f' = cntC n f := by
  unfold cntC
  exact List.map_congr_left fun j hj => by rw [h j (List.mem_range.1 hj)]
set_option maxRecDepth 100000 in
theorem make_counts {n : Nat} (hn : n ≤ 256) (w : World) : (Instr.makeSlice 53 (.int .i64 (n : Int)) (.int .i64 (n : Int))).run Try.prog w = .ok (.slice (some ⟨w.heap.size, 0, none⟩) n n) (w.alloc (.cells (cntC n fun _ => 0).toArray 3)) := by
  have hi := infoI
  cases hq : Try.prog.info? 3 with
  | none => rw [hq] at hi; cases hi
  | some i =>
    rw [hq] at hi
    have hi := Option.some.inj hi
    have h1 : i.zero = some (.int .i64 0) := congrArg (·.1) hi
    have h2 : i.size = 1 := congrArg (·.2.1) hi
    have h3 : i.bytes = 8 := congrArg (·.2.2) hi
    have h := run_makeSlice (P := Try.prog) w 53 3 i (.int .i64 0) Try.underlying53 hq h1 .i64 .i64 (n : Int) (n : Int) (by omega) (by omega) (by rw [h2]; omega) (by rw [h3]; omega) (by omega)
    rw [Int.toNat_natCast, h2, Nat.mul_one] at h
    rw [h]
    show Result.ok _ (w.alloc (.cells (madeCells #[.int .i64 0] n) _)) = _
    have : madeCells #[.int .i64 0] n = (cntC n fun _ => 0).toArray := by
      apply Array.ext'
      unfold madeCells cntC
      apply List.ext_getElem?
      intro j
      by_cases hj : j < n
      · simp [hj, Nat.mod_one]
      · simp [hj]
    rw [this]
/-- The spaces' pointers lie there. -/
def PtrsAt (W : World) (g s : Nat) (sb : Nat → Nat) : Prop := g < W.heap.size ∧ ∀ i, i < s → W.cell? ⟨g, i, none⟩ = some (.pointer (some ⟨sb i, 0, none⟩))
theorem PtrsAt.below {W W' : World} {g s : Nat} {sb : Nat → Nat} (h : PtrsAt W g s sb) (hb : Below W.heap.size W W') : PtrsAt W' g s sb := ⟨Nat.lt_of_lt_of_le h.1 hb.size, fun i hi => (hb.cell h.1).trans (h.2 i hi)⟩
section
variable {w W W' : World} {fb lb cap : Nat} {F : Fs} {s : Nat} {sb bt : Nat → Nat} {q : Nat → Nat → Option Nat} {ms : Nat → M}
theorem asList (h : AS w W fb lb cap F s sb bt q ms) {i : Nat} (hi : i < s) :
    Calls Try.prog 18 #[.pointer (some ⟨sb i, 0, none⟩)] W fun e W' => ∃ A c, e = .returned (.slice A (list (ms i)).length c) ∧ RowB W' A 62 6 (listR (ms i)) ∧ Below W.heap.size W W' := by
  refine (spList_any (h.fs hi)).mono ?_
  rintro e W' ⟨v, rfl, hrow, _, hb⟩
  have hfl : (list (ms i)).flatMap mapCells = (listR (ms i)).flatten := by unfold listR; rw [List.flatMap_def]
  rw [hfl, ← listR_len] at hrow
  obtain ⟨A, c, rfl, hR, _⟩ := rows_own (fun r hr => by unfold listR at hr; rw [List.mem_map] at hr; obtain ⟨y, _, rfl⟩ := hr; rfl) hrow
  rw [listR_len]
  refine ⟨A, c, rfl, ⟨hR, fun i hi => ?_⟩, hb⟩
  rcases hrow.2 with ⟨_, h0⟩ | ⟨g, cap, cur, e, _, hg, _⟩
  · omega
  · injection e with e1 _ _
    exact ⟨g, 0, cur, e1, hg⟩
set_option maxRecDepth 100000 in
set_option maxHeartbeats 4000000 in
theorem counts_any (h : AS w W fb lb cap F s sb bt q ms) (hs : s ≤ 4) {g : Nat} (hp : PtrsAt W g s sb) (cp : Nat) :
    Calls Try.prog 24 #[.pointer (some ⟨fb, 0, none⟩), .slice (some ⟨g, 0, none⟩) s cp] W fun e W' => e = .returned (.bool true) ∧ Below W.heap.size W W' := by
  have HH := Lib.hid h
  have HP := Lib.hid hp
  have hn := h.f.ok.pos
  have HLEN := Lib.hid (frLen_any h.f)
  have hmk := make_counts (n := F.n) (by omega) W
  have HST := Lib.hid (Blk.new W 3 (cntC F.n fun _ => 0).toArray)
  have HSB := Lib.hid (bl_new (Below.refl W.heap.size W) (.cells (cntC F.n fun _ => 0).toArray 3))
  obtain ⟨n, hnn⟩ : ∃ n, n = F.n := ⟨_, rfl⟩
  rw [← hnn] at hn HLEN hmk HST HSB
  have HN := Lib.hid hnn
  clear h hp hnn
  go_enter Try.func24, Try.ntmps24
  go_wp2_with (fail)
  refine HLEN.out.mono ?_
  rintro e _ ⟨rfl, rfl⟩
  go_wp2_with (fail)
  obtain ⟨mb, hmb⟩ : ∃ mb, mb = W.heap.size := ⟨_, rfl⟩
  have HMB := Lib.hid hmb
  rw [← hmb] at HST ⊢
  generalize W.alloc (.cells (cntC n fun _ => 0).toArray 3) = W1 at *
  clear hmk hmb HLEN
  go_loopw [6, 7, 8, 9] (fun i _ _ _ wr => ∃ k : Nat, i = .int .i64 (k : Int) ∧ k ≤ s ∧ Hid (Below W.heap.size W wr ∧ Blk wr mb 3 (cntC n fun f => cntS ms f k).toArray)) (fun i _ _ _ _ => s - (intOf i).toNat)
  case atStart => exact ⟨0, rfl, Nat.zero_le _, Lib.hid ⟨HSB.out, HST.out⟩⟩
  case round =>
    clear HST HSB
    obtain ⟨i, rfl, hi, HR⟩ := hrel
    by_cases his : i < s
    case pos =>
      have hii : (i : Int) < (s : Int) := by omega
      have hp0 := (HR.out.1.cell HP.out.1).trans (HP.out.2 i his)
      have HL := Lib.hid (asList (HH.out.below HR.out.1) his)
      go_wp2_with (fail)
      refine HL.out.mono ?_
      rintro e W2 ⟨A1, c1, rfl, hrb, hb2⟩
      have HRB := Lib.hid hrb
      have HB2 := Lib.hid (bl_step HR.out.1 hb2)
      have HK2 := Lib.hid (HR.out.2.below hb2 HR.out.2.lt)
      have hll : (list (ms i)).length ≤ 64 := listN_len (ms i) 64 0
      obtain ⟨L, hL⟩ : ∃ L, L = (list (ms i)).length := ⟨_, rfl⟩
      rw [← hL] at hll ⊢
      have HLL := Lib.hid hL
      clear hrb hb2 hL hp0 HL HR
      go_wp2_with (fail)
      go_loopw [8, 9] (fun j _ wy => ∃ k : Nat, j = .int .i64 (k : Int) ∧ k ≤ L ∧ Hid (Below W.heap.size W wy ∧ Blk wy mb 3 (cntC n fun f => cntS ms f i + cntL (list (ms i)) f k).toArray ∧ RowB wy A1 62 6 (listR (ms i)))) (fun j _ _ => L - (intOf j).toNat)
      case atStart => exact ⟨0, rfl, Nat.zero_le _, Lib.hid ⟨HB2.out, HK2.out, HRB.out⟩⟩
      case round =>
        clear HRB HB2 HK2
        obtain ⟨k, rfl, hk, HQ⟩ := hrel
        by_cases hkl : k < L
        case pos =>
          have hki : (k : Int) < (L : Int) := by omega
          obtain ⟨y, hy⟩ : ∃ y, (list (ms i))[k]? = some y := ⟨_, List.getElem?_eq_getElem (by rw [← HLL.out]; exact hkl)⟩
          have hyr : (listR (ms i))[k]? = some (mapCells y) := by unfold listR; rw [List.getElem?_map, hy]; rfl
          obtain ⟨b1, o1, rfl, hl1, hr1⟩ := HQ.out.2.2.r k _ hyr
          obtain ⟨hyp, hyx⟩ := list_get hy
          obtain ⟨f, hf, hfn⟩ := HH.out.gi.rng i y.1 y.2 his hyp hyx
          have c1 : wr.cell? ⟨b1, o1 + k * 6 + 1, none⟩ = some (.int .i64 (f : Int)) := by rw [← hf]; exact hr1 1 _ rfl
          have hfn : f < n := by rw [HN.out]; exact hfn
          have HBD := Lib.hid (show cntS ms f i + cntL (list (ms i)) f k ≤ 1000 from by
            have h1 := cntS_le ms f i
            have h2 := cntL_le (list (ms i)) f k
            omega)
          have HSET := Lib.hid (cntC_set (n := n) (k := f) (f := fun f => cntS ms f i + cntL (list (ms i)) f k) (f' := fun f => cntS ms f i + cntL (list (ms i)) f (k + 1)) (fun j _ => by
            show cntS ms j i + cntL (list (ms i)) j (k + 1) = _
            rw [cntL, hy]
            simp only
            rw [hf]
            by_cases e : j = f
            · subst e; rw [if_pos rfl, if_pos rfl]; omega
            · rw [if_neg e, if_neg (by omega), Nat.add_zero]))
          have d0 : wr.cell? ⟨mb, f, none⟩ = some (.int .i64 ((cntS ms f i + cntL (list (ms i)) f k : Nat) : Int)) := by rw [HQ.out.2.1.cell, List.getElem?_toArray]; exact cntC_get _ hfn
          have g0 := HQ.out.2.1.frozen f
          have hml := HQ.out.2.1.lt
          have hf0 : ¬ (f : Int) < 0 := by omega
          have hf1 : ¬ (n : Int) ≤ (f : Int) := by omega
          have hcb : ((cntS ms f i + cntL (list (ms i)) f k : Nat) : Int) ≤ 1000 := by have := HBD.out; omega
          clear hy hyr hr1 hyp hyx hf
          generalize hc : ((cntS ms f i + cntL (list (ms i)) f k : Nat) : Int) = cv at *
          have HC := Lib.hid hc
          have hc0 : 0 ≤ cv := by rw [← hc]; omega
          clear hc HBD
          go_wp2
          go_roundw
          case rel =>
            refine ⟨k + 1, by go_num, by omega, Lib.hid ⟨HQ.out.1.setCell (by show W.heap.size ≤ mb; rw [HMB.out]; exact Nat.le_refl _) _, ?_, ?_⟩⟩
            · have h1 := HQ.out.2.1.set_ f (.int .i64 (cv + 1))
              have h2 := HSET.out
              rw [List.setIfInBounds_toArray, h2] at h1
              exact h1
            · have hne : ∀ b' t' cs', Blk wr b' t' cs' → t' = 62 → b' ≠ mb := fun b' t' cs' hb' ht => hb'.ne_ HQ.out.2.1 (by rw [ht]; decide)
              refine ⟨fun i' r' hr' => ?_, fun i' hi' => ?_⟩
              · obtain ⟨gg, oo, cs', hA', hb'⟩ := HQ.out.2.2.b i' (List.getElem?_eq_some_iff.1 hr').1
                obtain ⟨g2, o2, hA2, hl2, hc2⟩ := HQ.out.2.2.r i' r' hr'
                rw [hA'] at hA2
                injection hA2 with e2
                injection e2 with e3 e4
                subst e3 e4
                have hb2' := hb'.far (show gg ≠ mb from hne _ _ _ hb' rfl) (.int .i64 (cv + 1)) (p := ⟨mb, f, none⟩)
                exact ⟨gg, oo, hA', hb2'.lt, fun j v hv => by rw [hb2'.cell, ← hb'.cell]; exact hc2 j v hv⟩
              · obtain ⟨gg, oo, cs', hA', hb'⟩ := HQ.out.2.2.b i' hi'
                exact ⟨gg, oo, cs', hA', hb'.far (show gg ≠ mb from hne _ _ _ hb' rfl) _⟩
          case measure => simp [intOf]; omega
        have hki : ¬ (k : Int) < (L : Int) := by omega
        have hkk : k = L := by omega
        have HE := Lib.hid (show Blk wr mb 3 (cntC n fun f => cntS ms f (i + 1)).toArray from by
          have h1 := HQ.out.2.1
          rw [hkk, HLL.out] at h1
          rw [cntC_ext (f := fun f => cntS ms f i + cntL (list (ms i)) f (list (ms i)).length) (fun j _ => by
            show cntS ms j (i + 1) = _
            rw [cntS]
            have := cntL_whole (ms i) j 64
            unfold list
            omega)]
          exact h1)
        have HE1 := Lib.hid HQ.out.1
        clear hkk hkl hk HQ
        go_wp2_with (fail)
        exact ⟨⟨i + 1, by simp, by omega, Lib.hid ⟨HE1.out, HE.out⟩⟩, by simp [intOf]; omega⟩
    have hii : ¬ (i : Int) < (s : Int) := by omega
    have hiis : i = s := by omega
    subst hiis
    clear hii his hi
    go_wp2_with (fail)
    rename World => wo
    have HFIN := Lib.hid HR.out.1
    have HFB := Lib.hid HR.out.2
    clear HR
    go_loopw [10] (fun j wy => ∃ k : Nat, j = .int .i64 (k : Int) ∧ k ≤ n ∧ Hid (Below wo.heap.size wo wy)) (fun j _ => n - (intOf j).toNat)
    case atStart => exact ⟨0, rfl, Nat.zero_le _, Lib.hid (Below.refl _ _)⟩
    case round =>
      obtain ⟨k, rfl, hk, HB⟩ := hrel
      by_cases hkn : k < n
      case pos =>
        have hki : (k : Int) < (n : Int) := by omega
        have HC := Lib.hid (show ∀ W1, Below wr.heap.size wr W1 → W1.cell? ⟨mb, k, none⟩ = some (.int .i64 (F.r k : Int)) from fun W1 hb => by
          have hk1 := (HFB.out.below HB.out HFB.out.lt).below hb (HFB.out.below HB.out HFB.out.lt).lt
          rw [hk1.cell, List.getElem?_toArray, cntC_get _ hkn, HH.out.gi.cnt k])
        have hml := (HFB.out.below HB.out HFB.out.lt).lt
        have hrf := frRefs_any (HH.out.f.below (HFIN.out.trans (HB.out.mono HFIN.out.size))).drew (k : Int)
        have hri : refsI F (k : Int) = F.r k := by
          unfold refsI
          rw [if_pos ⟨by omega, by rw [← HN.out]; omega⟩, Int.toNat_natCast]
        rw [hri] at hrf
        have HRF := Lib.hid hrf
        generalize (F.r k : Int) = rv at *
        clear hrf hri
        go_wp2_with (fail)
        refine wp_region_held_drew (S := fun w' => Below wr.heap.size wr w') (by kernel_rfl) ((Below.refl wr.heap.size wr).drew) (fun hS => ?_)
        refine wpAnyH_takeD (i := 0) (v := ?_) rfl (by kernel_rfl) (by kernel_rfl) (by kernel_rfl) (fun _ _ _ h => h) (Or.inl ⟨by kernel_rfl, ?_⟩) hS ?_
        rotate_left 1
        · intro w hS
          go_simp
          all_goals with_reducible rfl
        try simp only [Act.put, List.setIfInBounds_toArray, List.set_cons_zero, List.set_cons_succ]
        refine wpAnyH_takeD (i := 1) (v := ?_) rfl (by kernel_rfl) (by kernel_rfl) (by kernel_rfl) (fun _ _ _ h => h) (Or.inl ⟨by kernel_rfl, ?_⟩) hS ?_
        rotate_left 1
        · intro w hS
          go_simp
          all_goals with_reducible rfl
        try simp only [Act.put, List.setIfInBounds_toArray, List.set_cons_zero, List.set_cons_succ]
        refine wpAnyH_takeD (i := 3) (v := ?_) rfl (by kernel_rfl) (by kernel_rfl) (by kernel_rfl) (fun _ _ _ h => h) (Or.inl ⟨by kernel_rfl, ?_⟩) hS ?_
        rotate_left 1
        · intro w hS
          go_simp
          all_goals with_reducible rfl
        try simp only [Act.put, List.setIfInBounds_toArray, List.set_cons_zero, List.set_cons_succ]
        refine wpAnyH_takeD (i := 4) (v := ?_) rfl (by kernel_rfl) (by kernel_rfl) (by kernel_rfl) (fun _ _ _ h => h) (Or.inl ⟨by kernel_rfl, ?_⟩) hS ?_
        rotate_left 1
        · intro w hS
          go_simp
          all_goals with_reducible rfl
        try simp only [Act.put, List.setIfInBounds_toArray, List.set_cons_zero, List.set_cons_succ]
        refine wpAnyH_takeD (i := 5) (v := ?_) rfl (by kernel_rfl) (by kernel_rfl) (by kernel_rfl) (fun _ _ _ h => h) (Or.inl ⟨by kernel_rfl, ?_⟩) hS ?_
        rotate_left 1
        · intro w hS
          go_simp
          all_goals with_reducible rfl
        try simp only [Act.put, List.setIfInBounds_toArray, List.set_cons_zero, List.set_cons_succ]
        refine wpAnyH_takeD (i := 6) (v := ?_) rfl (by kernel_rfl) (by kernel_rfl) (by kernel_rfl) (fun _ _ _ h => h) (Or.inl ⟨by kernel_rfl, ?_⟩) hS ?_
        rotate_left 1
        · intro w hS
          have d0 := HC.out _ hS
          go_simp
          all_goals with_reducible rfl
        try simp only [Act.put, List.setIfInBounds_toArray, List.set_cons_zero, List.set_cons_succ]
        refine wpAnyH_ready (rs := [2]) (by kernel_rfl) (by simp) ?_
        refine AllReadyH.consD rfl (fun K hK => ?_) AllReadyH.nil
        go_simp
        refine (HRF.out).mono ?_
        rintro e _ ⟨rfl, rfl⟩
        refine hK.out _ _ (hS) (fun hS => ?_)
        clear hK K
        try simp only [Act.put, List.setIfInBounds_toArray, List.set_cons_zero, List.set_cons_succ]
        refine wpAnyH_takeD (i := 7) (v := ?_) rfl (by kernel_rfl) (by kernel_rfl) (by kernel_rfl) (fun _ _ _ h => h) (Or.inl ⟨by kernel_rfl, ?_⟩) hS ?_
        rotate_left 1
        · intro w hS
          go_simp
          all_goals with_reducible rfl
        try simp only [Act.put, List.setIfInBounds_toArray, List.set_cons_zero, List.set_cons_succ]
        refine wpAnyH_done (by kernel_rfl) ?_ _
        have HB2 := Lib.hid (HB.out.drew)
        clear hS HC HRF
        go_wp2
        go_roundw
        case rel => exact ⟨k + 1, by go_num, by omega, HB2⟩
        case measure => simp [intOf]; omega
      have hki : ¬ (k : Int) < (n : Int) := by omega
      clear hkn hk
      have HEND := Lib.hid (HFIN.out.trans (HB.out.mono HFIN.out.size))
      go_wp2
      go_ret
      exact ⟨rfl, HEND.out⟩
end
end Go.Proofs.Ytolejpbdbjkndaa
