/-
  Walks over package trace: the iterator. No condition.
-/
import Derived.Test.YtpcaeggecojaeaaDoorTrD4
namespace Go.Proofs.YtpcaeggecojaeaaDoor
open Go.RowKit Go.Shelf
set_option linter.unusedVariables false
set_option linter.unusedSimpArgs false
attribute [local go_sem] Oper.semAt_some

def S.val (x : S) : Value := .agg x.cells.toArray
def encS (x : S) : Array Value := #[x.val]
/-- What a round keeps: what lay below n₀, and two blocks more. -/
def KpB2 (n₀ B1 B2 : Nat) (A B : World) : Prop := Below n₀ A B ∧ B.heap[B1]? = A.heap[B1]? ∧ B.heap[B2]? = A.heap[B2]?
theorem kpB2_t {n₀ B1 B2 : Nat} {A B C : World} (h : KpB2 n₀ B1 B2 A B) (k : KpB2 n₀ B1 B2 B C) : KpB2 n₀ B1 B2 A C := ⟨h.1.trans k.1, k.2.1.trans h.2.1, k.2.2.trans h.2.2⟩
theorem kpB2_b {n₀ B1 B2 : Nat} {w : World} (hn : n₀ ≤ w.heap.size) (h1 : B1 < w.heap.size) (h2 : B2 < w.heap.size) (W : World) (l : Nat) (o o' : Obj) (hl : w.heap.size ≤ l) (h : W.heap[l]? = some o) (hc : o.isCells = false) (hw : o.isWalk = false) : KpB2 n₀ B1 B2 W (W.putObj l o') :=
  ⟨belowK_b hn W l o o' hl h hc hw, World.putObj_heap_other (by omega), World.putObj_heap_other (by omega)⟩

theorem take_hit {p : S → Bool} {l : List S} {k : Nat} {x : S} (h : l[k]? = some x) (hp : p x = true) : (l.take (k + 1)).filter p = (l.take k).filter p ++ [x] := by
  rw [filter_take h, hp]; rfl
theorem take_miss {p : S → Bool} {l : List S} {k : Nat} {x : S} (h : l[k]? = some x) (hp : p x = false) : (l.take (k + 1)).filter p = (l.take k).filter p := by
  rw [filter_take h, hp]; simp
theorem take_prefix (p : S → Bool) (l : List S) (k : Nat) : (l.take k).filter p <+: l.filter p := by
  have : l.take k ++ l.drop k = l := List.take_append_drop k l
  rw [← this]
  rw [List.filter_append]
  simp only [this]
  exact List.prefix_append _ _

set_option maxRecDepth 100000 in
set_option maxHeartbeats 2000000 in
theorem some1_in (l Bl Bi n₀ : Nat) (A : Option Addr) (ca : Nat) (xs : List S) (hxl : xs.length ≤ 1000000) (kf : Nat) (lb : Array Value) (p : S → Bool) (hen : ∀ args w, (callFunc kf args).run Tryd.prog w = .ok (.enter kf args) w)
    (K : World → Prop) (hKb : ∀ X Y, K X → Below n₀ X Y → K Y) (hcl : ∀ x W, K W → Calls Tryd.prog kf (#[x.val] ++ lb) W fun e w' => e = .returned (.bool (p x)) ∧ Below W.heap.size W w')
    (n : Nat) (hn : 3 ≤ n) (J Jx : List S → World → Prop)
    (hJa : ∀ s W W', J s W → Below W.heap.size W W' → J s W')
    (hY : ∀ pre x W, J pre W → pre.length < 1000000 → YieldAt Fence.wide (n - 1) Tryd.prog l (encS x) W fun e W' =>
      (e = .returned (.bool true) ∧ J (pre ++ [x]) W' ∧ KpB2 n₀ Bl Bi W W') ∨ (e = .returned (.bool false) ∧ Jx (pre ++ [x]) W'))
    (W : World) (hBl : Blk W Bl 22 #[.slice A xs.length ca]) (hBi : Blk W Bi 57 #[.func (.func kf) #[] lb]) (hA : SeenAt W A xs) (hlo : 0 < xs.length → ∀ b off, A = some ⟨b, off, none⟩ → b < n₀) (hn₀ : n₀ ≤ W.heap.size) (h0 : J [] W) (hK : K W) :
    CallsIn Fence.wide n Tryd.prog 62 #[.func (.yield l) #[] #[], .pointer (some ⟨Bl, 0, none⟩), .pointer (some ⟨Bi, 0, none⟩)] W fun e W' => (∃ v, e = .returned v) ∧
      ((∃ ys, ys = xs.filter p ∧ J ys W') ∨ (∃ pre, pre <+: xs.filter p ∧ Jx pre W')) := by
  have hlo' : 0 < (xs.map S.cells).length → ∀ b off, A = some ⟨b, off, none⟩ → b < n₀ := by rwa [List.length_map]
  have HLO := Lib.hid hlo'
  have HY := Lib.hid hY
  have HKB := Lib.hid hKb
  have HCL := Lib.hid hcl
  have HJA := Lib.hid hJa
  clear hlo hlo' hY hKb hcl hJa
  have hlC := hBl.cell 0
  simp only [List.getElem?_toArray, List.getElem?_cons_zero] at hlC
  refine callsIn_of_wp Tryd.func62 rfl trivial ?_ rfl
  simp only [Tryd.ntmps62, List.size_toArray, List.length_cons, List.length_nil, Nat.reduceAdd, Nat.reduceSub, Array.replicate_succ, Array.replicate_zero, List.push_toArray, List.append_toArray, List.nil_append, List.cons_append]
  gi_wp2
  refine wpIn_scope_straight ?_
  gi_wp2
  refine wpIn_label ?_
  gi_wp2
  gi_loopw [8] (fun c wr => ∃ k : Nat, k ≤ xs.length ∧ c = .int .i64 k ∧ J ((xs.take k).filter p) wr ∧ Blk wr Bl 22 #[.slice A xs.length ca] ∧ Blk wr Bi 57 #[.func (.func kf) #[] lb] ∧ SeenAt wr A xs ∧ n₀ ≤ wr.heap.size ∧ K wr)
    (fun c _ => xs.length - (intOf c).toNat)
  case atStart => exact ⟨0, by omega, rfl, h0, hBl, hBi, hA, hn₀, hK⟩
  case round =>
    obtain ⟨k, hk, rfl, hJ, hBlr, hBir, hAr, hsz, hKr⟩ := hrel
    clear hBl hBi hA hn₀ h0 hK hlC
    have hiC := hBir.cell 0
    simp only [List.getElem?_toArray, List.getElem?_cons_zero] at hiC
    by_cases hlt : k < xs.length
    · have hka : (k : Int) < (xs.length : Int) := by omega
      have hxe : xs[k]? = some xs[k] := List.getElem?_eq_getElem hlt
      have hpl : ((xs.take k).filter p).length ≤ k := take_len
      generalize xs[k] = x at *
      obtain ⟨b, off, rfl, hbl, c0, c1, c2, c3⟩ := seen_at hAr hxe
      have hb0 := (Below.refl wr.heap.size wr).alloc (Nat.le_refl _) (.cells x.cells.toArray 27)
      have hcl := HCL.out x (wr.alloc (.cells x.cells.toArray 27)) (HKB.out _ _ hKr (hb0.mono hsz))
      have hiC2 := ((hBir.alloc (.cells x.cells.toArray 27)).cell 0)
      simp only [List.getElem?_toArray, List.getElem?_cons_zero] at hiC2
      have hbil := hBir.lt
      cases hpx : p x with
      | false =>
        have hm := take_miss hxe hpx
        rw [hpx] at hcl
        obtain ⟨xp, xk, xc, xv⟩ := x
        simp only [S.val, S.cells] at hcl c0 c1 c2 c3 hb0
        have HC := Lib.hid hcl
        have HM := Lib.hid hm
        clear hcl hm hxe hpx
        gi_wp2_with (refine ⟨trivial, fun _ => by omega, ?_⟩; refine (callsIn_wide.2 HC.out).mono ?_; rintro e w1 ⟨rfl, hb1⟩)
        go_roundw
        case rel =>
          have hb2 := hb0.trans (hb1.mono (by simp))
          exact ⟨k + 1, by omega, by go_num, by rw [HM.out]; exact HJA.out _ _ _ hJ hb2, hBlr.below hb2 hBlr.lt, hBir.below hb2 hBir.lt, hAr.below hb2, by have := hb2.size; omega, HKB.out _ _ hKr (hb2.mono hsz)⟩
        case measure => simp [intOf]; omega
      | true =>
        have hm := take_hit hxe hpx
        rw [hpx] at hcl
        have hpf := take_prefix p xs (k + 1)
        rw [hm] at hpf
        obtain ⟨xp, xk, xc, xv⟩ := x
        have hnew := Blk.new wr 27 (S.cells ⟨xp, xk, xc, xv⟩).toArray
        simp only [S.val, S.cells] at hcl c0 c1 c2 c3 hb0 hnew
        have HC := Lib.hid hcl
        have HM := Lib.hid hm
        have HPF := Lib.hid hpf
        clear hcl hm hxe hpx hpf
        gi_wp2_with (refine ⟨trivial, fun _ => by omega, ?_⟩; refine (callsIn_wide.2 HC.out).mono ?_; rintro e w1 ⟨rfl, hb1⟩; have hb2 := hb0.trans (hb1.mono (by simp)); have hx1 := hnew.below hb1 (by simp); have x0 := hx1.cell 0; have x1 := hx1.cell 1; have x2 := hx1.cell 2; have x3 := hx1.cell 3; simp only [List.getElem?_toArray, List.getElem?_cons_zero, List.getElem?_cons_succ] at x0 x1 x2 x3; have hxl1 := hx1.lt; clear hx1; obtain ⟨fn, tmps, assign, body, hy, hR⟩ := HY.out _ ⟨xp, xk, xc, xv⟩ w1 (HJA.out _ _ _ hJ hb2) (by omega); simp only [encS, S.val, S.cells] at hy)
        refine ⟨fun _ => by omega, hR.mono ?_⟩
        rintro e W3 (⟨rfl, hJ3, hk3⟩ | ⟨rfl, hJx3⟩)
        · gi_wp2
          go_roundw
          case rel =>
            have hb4 := (hb2.mono hsz).trans hk3.1
            have hB1 : Blk W3 Bl 22 #[.slice (some ⟨b, off, none⟩) xs.length ca] := hk3.2.1.trans (hBlr.below hb2 hBlr.lt)
            have hB2 : Blk W3 Bi 57 #[.func (.func kf) #[] lb] := hk3.2.2.trans (hBir.below hb2 hBir.lt)
            refine ⟨k + 1, by omega, by go_num, ?_, hB1, hB2, hAr.belowB hb4 HLO.out, by have := hb4.size; omega, HKB.out _ _ hKr hb4⟩
            rw [HM.out]
            exact hJ3
          case measure => simp [intOf]; omega
        · gi_wp2
          try rw [Exit.noGoto_ret]
          refine bodyPost_ret (results_none rfl _ _ _) rfl ?_
          exact ⟨⟨_, rfl⟩, .inr ⟨_, HPF.out, hJx3⟩⟩
    · have hkk : k = xs.length := by omega
      subst hkk
      rw [List.take_length] at hJ
      gi_wp2
      rw [Exit.noGoto_normal]
      go_end0
      exact ⟨⟨_, rfl⟩, .inl ⟨_, rfl, hJ⟩⟩

theorem some1_stops (n : Nat) (hn : 3 ≤ n) (Bl Bi n₀ : Nat) (A : Option Addr) (ca : Nat) (xs : List S) (hxl : xs.length ≤ 1000000) (kf : Nat) (lb : Array Value) (p : S → Bool) (hen : ∀ args w, (callFunc kf args).run Tryd.prog w = .ok (.enter kf args) w)
    (K : World → Prop) (hKb : ∀ X Y, K X → Below n₀ X Y → K Y) (hcl : ∀ x W, K W → Calls Tryd.prog kf (#[x.val] ++ lb) W fun e w' => e = .returned (.bool (p x)) ∧ Below W.heap.size W w') (w : World)
    (hBl : Blk w Bl 22 #[.slice A xs.length ca]) (hBi : Blk w Bi 57 #[.func (.func kf) #[] lb]) (hA : SeenAt w A xs) (hlo : 0 < xs.length → ∀ b off, A = some ⟨b, off, none⟩ → b < n₀) (hn₀ : n₀ ≤ w.heap.size) (hK : K w) :
    SeqStopsK Fence.wide n Tryd.prog 62 #[.pointer (some ⟨Bl, 0, none⟩), .pointer (some ⟨Bi, 0, none⟩)] encS (KpB2 n₀ Bl Bi) (fun ys => ys = xs.filter p) (fun pre => pre <+: xs.filter p) 1000000 w := fun l J Jx W hW hJ _ hY h0 =>
  some1_in l Bl Bi n₀ A ca xs hxl kf lb p hen K hKb hcl n hn J Jx (fun s A B hs hb => abides_below hJ hs hb) hY W (hBl.below hW hBl.lt) (hBi.below hW hBi.lt) (hA.below hW) hlo (by have := hW.size; omega) h0 (hKb _ _ hK (hW.mono hn₀))

theorem some_in (n : Nat) (A : Option Addr) (len ca kf : Nat) (lb : Array Value) (w : World) :
    CallsIn Fence.wide n Tryd.prog 48 #[.slice A len ca, .func (.func kf) #[] lb] w fun e w' => e = .returned (.func (.func 62) #[] #[.pointer (some ⟨w.heap.size, 0, none⟩), .pointer (some ⟨w.heap.size + 1, 0, none⟩)]) ∧ w' = (w.alloc (.cells #[.slice A len ca] 22)).alloc (.cells #[.func (.func kf) #[] lb] 57) := by
  refine callsIn_of_wp Tryd.func48 rfl trivial ?_ rfl
  simp only [Tryd.ntmps48, List.size_toArray, List.length_cons, List.length_nil, Nat.reduceAdd, Nat.reduceSub, Array.replicate_succ, Array.replicate_zero, List.push_toArray, List.append_toArray, List.nil_append, List.cons_append]
  gi_wp2
  go_ret
  exact ⟨rfl, rfl⟩

set_option maxRecDepth 100000 in
set_option maxHeartbeats 2000000 in
theorem list_in (n : Nat) (hn : 6 ≤ n) (A : Option Addr) (ca : Nat) (xs : List S) (hxl : xs.length ≤ 1000000) (kf : Nat) (lb : Array Value) (p : S → Bool) (hen : ∀ args w, (callFunc kf args).run Tryd.prog w = .ok (.enter kf args) w) (w : World)
    (K : World → Prop) (hKb : ∀ X Y, K X → Below w.heap.size X Y → K Y) (hcl : ∀ x W, K W → Calls Tryd.prog kf (#[x.val] ++ lb) W fun e w' => e = .returned (.bool (p x)) ∧ Below W.heap.size W w') (hA : SeenAt w A xs) (hK : K w) :
    CallsIn Fence.wide n Tryd.prog 26 #[.slice A xs.length ca, .func (.func kf) #[] lb] w fun e W' => ∃ v, e = .returned v ∧ OwnS W' w.heap.size v (xs.filter p) ∧ Below w.heap.size w W' := by
  have h1 : 1 ≤ n := by omega
  obtain ⟨i0, hi, hz0, hz1, hz2⟩ := info_parts infoS
  have hlo : 0 < xs.length → ∀ b off, A = some ⟨b, off, none⟩ → b < w.heap.size := fun h0 b off hb => by
    obtain ⟨b', off', hA', hlt, _⟩ := seen_at hA (List.getElem?_eq_getElem h0)
    rw [hb] at hA'
    injection hA' with hA'
    injection hA' with e1 _ _
    omega
  have HLO := Lib.hid hlo
  have HKB := Lib.hid hKb
  have HCL := Lib.hid hcl
  have HA := Lib.hid hA
  clear hlo hKb hcl hA
  refine callsIn_of_wp_marks Tryd.func26 rfl trivial ?_ rfl
  simp only [Tryd.ntmps26, List.size_toArray, List.length_cons, List.length_nil, Nat.reduceAdd, Nat.reduceSub, Array.replicate_succ, Array.replicate_zero, List.push_toArray, List.append_toArray, List.nil_append, List.cons_append]
  gi_wp2_with (refine ⟨trivial, ?_⟩; gi_at_call 48; refine (some_in (n - 1) _ _ _ _ _ _).mono ?_; rintro e w' ⟨rfl, rfl⟩)
  have bO := ((Boxed.new w 22 (.slice none 0 0)).alloc (.cells #[.slice A xs.length ca] 22)).alloc (.cells #[.func (.func kf) #[] lb] 57)
  have bL := (Boxed.new (w.alloc (.cells #[.slice none 0 0] 22)) 22 (.slice A xs.length ca)).alloc (.cells #[.func (.func kf) #[] lb] 57)
  have bI := Boxed.new ((w.alloc (.cells #[.slice none 0 0] 22)).alloc (.cells #[.slice A xs.length ca] 22)) 57 (.func (.func kf) #[] lb)
  simp only [World.size_alloc] at bO bL bI ⊢
  have hB0 : Below w.heap.size w (((w.alloc (.cells #[.slice none 0 0] 22)).alloc (.cells #[.slice A xs.length ca] 22)).alloc (.cells #[.func (.func kf) #[] lb] 57)) := (((Below.refl _ w).alloc (Nat.le_refl _) _).alloc (by simp) _).alloc (by simp; omega) _
  have hsz : (((w.alloc (.cells #[.slice none 0 0] 22)).alloc (.cells #[.slice A xs.length ca] 22)).alloc (.cells #[.func (.func kf) #[] lb] 57)).heap.size = w.heap.size + 3 := by simp
  obtain ⟨W0, hW0⟩ : ∃ W0, ((w.alloc (.cells #[.slice none 0 0] 22)).alloc (.cells #[.slice A xs.length ca] 22)).alloc (.cells #[.func (.func kf) #[] lb] 57) = W0 := ⟨_, rfl⟩
  rw [hW0] at bO bL bI hB0 hsz ⊢
  clear hW0
  refine wpIn_rangeFunc_ownH rfl h1 (gf := 62) (lb := #[.pointer (some ⟨w.heap.size + 1, 0, none⟩), .pointer (some ⟨w.heap.size + 1 + 1, 0, none⟩)]) rfl trivial (enters_of Tryd.func62 (by kernel_rfl) rfl)
    (some1_stops (n - 1) (by omega) (w.heap.size + 1) (w.heap.size + 1 + 1) w.heap.size A ca xs hxl kf lb p hen K HKB.out HCL.out W0 bL bI (HA.out.below hB0) HLO.out (by omega) (HKB.out _ _ hK hB0)) kpB2_t (kpB2_b (by omega) (by omega) (by omega)) (Below.refl _ _) (fun _ => rfl)
    (fun (pre : List S) W => (∃ v, Boxed W w.heap.size 22 v ∧ W.ownsRow w.heap.size 27 4 v pre.length (pre.flatMap S.cells) ∧ True) ∧ (Boxed W (w.heap.size + 1) 22 (.slice A xs.length ca) ∧ Boxed W (w.heap.size + 1 + 1) 57 (.func (.func kf) #[] lb)) ∧ Below w.heap.size w W)
    (fun _ _ _ => False)
    (OwnFrom.and (Own.from (holdsRow_own w.heap.size w.heap.size 22 27 4 (fun (pre : List S) => pre.length) (fun (pre : List S) => pre.flatMap S.cells) (fun (pre : List S) (v : Value) => True)) _) (OwnFrom.and (OwnFrom.and (Own.from (boxed_own _ _ _) _) (Own.from (boxed_own _ _ _) _)) (ownFrom_below (Nat.le_refl _) (by omega))))
    (fun _ _ _ _ _ hs _ _ => hs)
    ⟨⟨_, bO, World.ownsRow_nil _ _ _ _, trivial⟩, ⟨bL, bI⟩, hB0⟩
    (fun x a' W => ∃ Bx, w.heap.size + 1 + 1 < Bx ∧ Blk W Bx 27 x.cells.toArray ∧ a' = { tmps := #[.slice A xs.length ca, .func (.func kf) #[] lb, undef, undef, .slice none 0 0, .pointer (some ⟨w.heap.size, 0, none⟩), .pointer (some ⟨Bx, 0, none⟩), .slice A xs.length ca, .func (.func kf) #[] lb, .func (.func 62) #[] #[.pointer (some ⟨w.heap.size + 1, 0, none⟩), .pointer (some ⟨w.heap.size + 1 + 1, 0, none⟩)], x.val, undef, undef, undef, undef, undef], defers := [] })
    (fun x a' _ X Y row hs hg hr => by obtain ⟨Bx, h1, h2, h3⟩ := hs; exact ⟨Bx, h1, blk_own Bx 27 (fun (_ : Unit) => x.cells.toArray) () X Y row h2 hg (fun r e => (hr r e).2), h3⟩)
    ?assign ?body ?done ?stop
  case assign =>
    rintro l pre x W K' ⟨⟨v, bv, hrow, hnil⟩, ⟨bN1, bF1⟩, hB1⟩ hK'
    obtain ⟨xp, xk, xc, xv⟩ := x
    simp only [encS, S.val, S.cells] at hK' ⊢
    gi_wp2
    exact hK' _ _ ((KeepsOthers.alloc _ _).from _) ⟨(Below.refl _ W).alloc hB1.size _, (Boxed.alloc bN1 _).trans bN1.symm, (Boxed.alloc bF1 _).trans bF1.symm⟩ ⟨⟨v, bv.alloc _, hrow.alloc _, hnil⟩, ⟨bN1.alloc _, bF1.alloc _⟩, hB1.alloc hB1.size _⟩ ⟨W.heap.size, bF1.lt, Blk.new W _ _, rfl⟩
  case body =>
    rintro l pre x a' W hl ⟨r, hr⟩ ⟨⟨v, hv, hrow, hnil⟩, ⟨bN1, bF1⟩, hB1⟩ ⟨Bx, hBx, bX, rfl⟩ hlt
    obtain ⟨xp, xk, xc, xv⟩ := x
    simp only [S.val, S.cells] at bX ⊢
    have hc := hv.cell
    have x0 := bX.cell 0
    have x1 := bX.cell 1
    have x2 := bX.cell 2
    have x3 := bX.cell 3
    simp only [List.getElem?_toArray, List.getElem?_cons_zero, List.getElem?_cons_succ] at x0 x1 x2 x3
    gi_wp2_with (gi_at_builtin; refine wpListIn_append_own _ rfl _ _ 22 rfl w.heap.size 27 i0 _ 4 32 Tryd.underlying22 hi hz0 hz1 hz2 rfl (by decide) _ _ _ rfl (hrow.alloc _) ⟨W.heap.size, 0, none⟩ 1 1 (S.cells ⟨xp, xk, xc, xv⟩) rfl rfl (cells_new _ _ _) (by simp [S.cells, Value.oneCell']) (by unfold maxLen; omega) (by omega) (by have := hB1.size; simp; omega) ?_; intro v' w1 hown' hgrow _; obtain ⟨g', cap', rfl⟩ := ownsRow_succ hown'; obtain ⟨hv1, hv2, hr2, hk2, hb2⟩ := hv.appended (by decide) hrow hB1.size (Nat.le_refl _) hown' hgrow; have hc1 := hv1.cell; have hf1 := hv1.frozen)
    have bN2 := ((bN1.alloc _).kept hgrow (bN1.not_row (by decide) hrow)).other (show w.heap.size + 1 ≠ w.heap.size by omega) (.slice (some ⟨g', 0, none⟩) (pre.length + 1) cap')
    have bF2 := ((bF1.alloc _).kept hgrow (bF1.not_row (by decide) hrow)).other (show w.heap.size + 1 + 1 ≠ w.heap.size by omega) (.slice (some ⟨g', 0, none⟩) (pre.length + 1) cap')
    exact ⟨hk2.from _, ⟨hb2, bN2.trans bN1.symm, bF2.trans bF1.symm⟩, ⟨_, hv2, by simpa using hr2, trivial⟩, ⟨bN2, bF2⟩, hB1.trans hb2⟩
  case done =>
    rintro D ys W hD rfl ⟨⟨v, hv, hrow, hnil⟩, ⟨bN1, bF1⟩, hB1⟩ hK
    have hc := hv.cell
    gi_wp2
    refine ⟨by simp, .inl ⟨_, _, rfl, run_takeDeferred hK, ?_⟩⟩
    exact ⟨_, results_tmp rfl _ _ _, v, rfl, ownsRow_putObj hrow _ hK rfl, hB1.trans (belowK_b (w := w) (Nat.le_refl _) W D _ _ (by omega) hK rfl rfl)⟩
  case stop =>
    rintro D c pre W _ _ h _
    exact h.elim
end Go.Proofs.YtpcaeggecojaeaaDoor
