/-
  The law BootWords, walked: each word of the program stands at its place in the pages. Condition: the tables lie as the program's text, and the library's, lay them.
-/
import Derived.RangeFuncNested
import Derived.Lib.EndianBits
import Derived.Test.YtpikgebfeleajaaGreatDoorBoC4
import Derived.Test.YtpikgebfeleajaaGreatDoorBoot7
import Derived.Test.YtpikgebfeleajaaGreatDoorBoL
namespace Go.Proofs.YtpikgebfeleajaaGreatDoor
section
section
open Go.RowKit Go.Shelf
set_option linter.unusedVariables false
set_option linter.unusedSimpArgs false
attribute [local go_sem] Oper.semAt_some

def pw (b0 b1 b2 b3 : Int) (k : Nat) : Int := (if 0 < k then b0 else 0) + (if 1 < k then b1 * 256 else 0) + (if 2 < k then b2 * 65536 else 0) + (if 3 < k then b3 * 16777216 else 0)
def encU (x : Int) : Array Value := #[.int .u32 x, .bool true]
theorem fours_in (n : Nat) (A : Option Addr) (len cap : Nat) (w : World) :
    CallsIn Fence.wide n Tryz.prog 63 #[.slice A len cap] w fun e w' => e = .returned (.func (.func 89) #[] #[.pointer (some ⟨w.heap.size, 0, none⟩)]) ∧ w' = w.alloc (.cells #[.slice A len cap] 39) := by
  refine callsIn_of_wp Tryz.func63 rfl trivial ?_ rfl
  simp only [Tryz.ntmps63, List.size_toArray, List.length_cons, List.length_nil, Nat.reduceAdd, Nat.reduceSub, Array.replicate_succ, Array.replicate_zero, List.push_toArray, List.append_toArray, List.nil_append, List.cons_append]
  gi_wp2
  go_ret
  exact ⟨rfl, rfl⟩
theorem or_step (k : Nat) (hk : k ≤ 24) {acc x : Int} (h0 : 0 ≤ acc) (h1 : acc < 2 ^ k) (h2 : 0 ≤ x) (h3 : x < 4294967296) (hm : x % 2 ^ k = 0) : bits .or .u32 acc x = acc + x := by
  have p32 : (2 : Int) ^ 32 = 4294967296 := by decide
  refine bits_join_low .u32 32 (by decide) wraps_u32 k acc x h0 h1 ?_ h2 hm (by rw [p32]; omega)
  rw [p32]
  have : (2 : Int) ^ k ≤ 2 ^ 24 := by
    have := Nat.pow_le_pow_right (n := 2) (by decide) hk
    exact_mod_cast this
  have p24 : (2 : Int) ^ 24 = 16777216 := by decide
  omega

set_option maxRecDepth 100000 in
set_option maxHeartbeats 4000000 in
theorem fours1_seq (n : Nat) (hn : 12 ≤ n) (l n₀ Bn g off cv : Nat) (b0 b1 b2 b3 : Int) (h0 : 0 ≤ b0 ∧ b0 < 256) (h1 : 0 ≤ b1 ∧ b1 < 256) (h2 : 0 ≤ b2 ∧ b2 < 256) (h3 : 0 ≤ b3 ∧ b3 < 256) (hcv : 4 ≤ cv) (hcm : cv ≤ 9223372036854775807)
    (W : World) (hBn : Blk W Bn 39 #[.slice (some ⟨g, off, none⟩) 4 cv]) (hA : BytesAt W (some ⟨g, off, none⟩) [b0, b1, b2, b3]) (hn₀ : n₀ ≤ W.heap.size) (hgn : g < n₀) :
    SeqR Fence.wide n Tryz.prog 89 #[.pointer (some ⟨Bn, 0, none⟩)] encU (fun x _ => x = pw b0 b1 b2 b3 4) (KpP n₀ Bn W.heap.size) (fun ys => ys = [pw b0 b1 b2 b3 4]) (fun pre => pre <+: [pw b0 b1 b2 b3 4]) 1 l W := by
  intro J Jx hJ hJx hY hs0
  have hn1 : 1 ≤ n := by omega
  have x0 := hBn.cell 0
  have xlt := hBn.lt
  simp only [List.getElem?_toArray, List.getElem?_cons_zero] at x0
  have hY0 := (Below.refl W.heap.size W).alloc (Nat.le_refl _) (.cells #[.func (.yield l) #[] #[]] 146)
  have hYb := Blk.new W 146 #[.func (.yield l) #[] #[]]
  have HB0 := Lib.hid hY0
  have HYB := Lib.hid hYb
  have HBN := Lib.hid hBn
  have HS := Lib.hid hs0
  have HG := Lib.hid (hA.below hY0)
  clear hY0 hYb hs0 hBn hA
  refine callsIn_of_wp_marks Tryz.func89 rfl trivial ?_ rfl
  simp only [Tryz.ntmps89, List.size_toArray, List.length_cons, List.length_nil, Nat.reduceAdd, Nat.reduceSub, Array.replicate_succ, Array.replicate_zero, List.push_toArray, List.append_toArray, List.nil_append, List.cons_append]
  gi_wp2_with (refine ⟨trivial, ?_⟩; gi_at_call 61; refine (C4.chunk_in Fence.wide _ trivial rfl _ _ _ _).mono ?_; rintro e w4 ⟨rfl, rfl⟩)
  obtain ⟨W1, hW1⟩ : ∃ W1, W.alloc (.cells #[.func (.yield l) #[] #[]] 146) = W1 := ⟨_, rfl⟩
  have hsz1 : W1.heap.size = W.heap.size + 1 := by rw [← hW1]; simp
  rw [hW1] at HB0 HYB HG ⊢
  clear hW1
  have bS := (Blk.new W1 39 #[.slice (some ⟨g, off, none⟩) 4 cv]).alloc (.cells #[.int .i64 4] 3)
  have bN := Blk.new (W1.alloc (.cells #[.slice (some ⟨g, off, none⟩) 4 cv] 39)) 3 #[.int .i64 4]
  rw [World.size_alloc] at bN
  have hB14 := ((Below.refl W1.heap.size W1).alloc (Nat.le_refl _) (.cells #[.slice (some ⟨g, off, none⟩) 4 cv] 39)).alloc (by simp) (.cells #[.int .i64 4] 3)
  have hB4 := (HB0.out.alloc (by omega) (.cells #[.slice (some ⟨g, off, none⟩) 4 cv] 39)).alloc (by simp; omega) (.cells #[.int .i64 4] 3)
  have hY4 := (HYB.out.alloc (.cells #[.slice (some ⟨g, off, none⟩) 4 cv] 39)).alloc (.cells #[.int .i64 4] 3)
  have hG4 := RowsAt.below HG.out hB14
  have hsz4 : ((W1.alloc (.cells #[.slice (some ⟨g, off, none⟩) 4 cv] 39)).alloc (.cells #[.int .i64 4] 3)).heap.size = W1.heap.size + 2 := by simp
  obtain ⟨W4, hW4⟩ : ∃ W4, (W1.alloc (.cells #[.slice (some ⟨g, off, none⟩) 4 cv] 39)).alloc (.cells #[.int .i64 4] 3) = W4 := ⟨_, rfl⟩
  rw [hW4] at bS bN hB4 hY4 hG4 hsz4 ⊢
  rw [hsz1] at bS bN hsz4
  clear hW4 hB14
  have HXV := Lib.hid (fun (x : Fin (C4.chunks 4)) => show C4.encC g off 4 x = #[.slice (some ⟨g, off, none⟩) 4 4] from by
    have hx : x.val = 0 := by
      have := x.isLt
      unfold C4.chunks at this
      omega
    unfold C4.encC
    rw [hx]
    rfl)
  have HPW := Lib.hid (show pw b0 b1 b2 b3 0 = 0 ∧ bits .or .u32 (pw b0 b1 b2 b3 0) b0 = pw b0 b1 b2 b3 1 ∧ bits .or .u32 (pw b0 b1 b2 b3 1) (b1 * 256) = pw b0 b1 b2 b3 2 ∧ bits .or .u32 (pw b0 b1 b2 b3 2) (b2 * 65536) = pw b0 b1 b2 b3 3 ∧ bits .or .u32 (pw b0 b1 b2 b3 3) (b3 * 16777216) = pw b0 b1 b2 b3 4 from by
    have e0 : pw b0 b1 b2 b3 0 = 0 := by unfold pw; simp
    have e1 : pw b0 b1 b2 b3 1 = b0 := by unfold pw; simp
    have e2 : pw b0 b1 b2 b3 2 = b0 + b1 * 256 := by unfold pw; simp
    have e3 : pw b0 b1 b2 b3 3 = b0 + b1 * 256 + b2 * 65536 := by unfold pw; simp
    have e4 : pw b0 b1 b2 b3 4 = b0 + b1 * 256 + b2 * 65536 + b3 * 16777216 := by unfold pw; simp
    have p0 : (2 : Int) ^ 0 = 1 := by decide
    have p8 : (2 : Int) ^ 8 = 256 := by decide
    have p16 : (2 : Int) ^ 16 = 65536 := by decide
    have p24 : (2 : Int) ^ 24 = 16777216 := by decide
    rw [e0, e1, e2, e3, e4]
    refine ⟨rfl, ?_, ?_, ?_, ?_⟩
    · rw [or_step 0 (by omega) (by omega) (by rw [p0]; omega) (by omega) (by omega) (by rw [p0]; omega)]; omega
    · rw [or_step 8 (by omega) (by omega) (by rw [p8]; omega) (by omega) (by omega) (by rw [p8]; omega)]
    · rw [or_step 16 (by omega) (by omega) (by rw [p16]; omega) (by omega) (by omega) (by rw [p16]; omega)]
    · rw [or_step 24 (by omega) (by omega) (by rw [p24]; omega) (by omega) (by omega) (by rw [p24]; omega)])
  refine wpIn_rangeFunc_ownH rfl hn1 (gf := 88) (lb := #[.pointer (some ⟨W.heap.size + 1, 0, none⟩), .pointer (some ⟨W.heap.size + 1 + 1, 0, none⟩)]) rfl trivial (enters_of Tryz.func88 (by kernel_rfl) rfl)
    (C4.chunk_stops (n - 1) (by omega) (W.heap.size + 1) (W.heap.size + 1 + 1) n₀ g off 4 cv (some ⟨g, off, none⟩) (fun _ => rfl) hcv (by omega) hcm W4 bS bN) kpC_t (fun W l o o' hl h h1 h2 => ⟨belowK_b (by omega) W l o o' hl h h1 h2, World.putObj_heap_other (by omega), World.putObj_heap_other (by omega)⟩) (Below.refl _ _) (fun _ => rfl)
    (fun pre W' => J W4.heap.size (pre.map fun _ => pw b0 b1 b2 b3 4) W' ∧ Blk W' W.heap.size 146 #[.func (.yield l) #[] #[]] ∧ BytesAt W' (some ⟨g, off, none⟩) [b0, b1, b2, b3] ∧ W4.heap.size ≤ W'.heap.size)
    (fun cc pre W' => cc = .ret ∧ Jx W4.heap.size (pre.map fun _ => pw b0 b1 b2 b3 4) W')
    (OwnFrom.and (fun s X Y row hs hg hr => (hJ W4.heap.size).from_ (B' := W4.heap.size) (by omega) (s.map fun _ => pw b0 b1 b2 b3 4) X Y row hs hg hr) (OwnFrom.and (Own.from (blk_own _ _ (fun _ => #[.func (.yield l) #[] #[]])) _) (OwnFrom.and (Own.from (rowsAt_own _ _ _) _) (Own.from (size_own _) _))))
    (fun cc s X Y row hs hg hr => ⟨hs.1, (hJx W4.heap.size).from_ (B' := W4.heap.size) (by omega) (s.map fun _ => pw b0 b1 b2 b3 4) X Y row hs.2 hg hr⟩)
    ⟨(hJ _).below (HS.out _) hB4, hY4, hG4, Nat.le_refl _⟩
    (fun x a' _ => a' = { tmps := #[.func (.yield l) #[] #[], .pointer (some ⟨Bn, 0, none⟩), .pointer (some ⟨W.heap.size, 0, none⟩), .slice (some ⟨g, off, none⟩) 4 4, undef, undef, undef, .slice (some ⟨g, off, none⟩) 4 cv,
      .func (.func 88) #[] #[.pointer (some ⟨W.heap.size + 1, 0, none⟩), .pointer (some ⟨W.heap.size + 1 + 1, 0, none⟩)], .slice (some ⟨g, off, none⟩) 4 4, undef, undef, undef, undef, undef, undef, undef, undef, undef, undef, undef, undef, undef, undef, undef, undef, undef, undef, undef, undef, undef, undef], defers := [] })
    (fun x a' _ X Y row hs hg hr => hs)
    ?assign ?body ?done ?stop
  case assign =>
    rintro l' pre x W' K ⟨hj, hYb, hBb, hsz⟩ hK
    rw [HXV.out x]
    gi_wp2
    exact hK _ _ (KeepsFrom.refl _ _) ⟨Below.refl _ _, rfl, rfl⟩ ⟨hj, hYb, hBb, hsz⟩ rfl
  case body =>
    rintro l' pre x a' W' hl' hr' ⟨hj, hYb, hBb, hsz⟩ rfl hlt
    have y0 := hYb.cell 0
    have ylt := hYb.lt
    simp only [List.getElem?_toArray, List.getElem?_cons_zero] at y0
    have hcb : C4.chunks 4 = 1 := rfl
    have hyd := hY W4.heap.size (pre.map fun _ => pw b0 b1 b2 b3 4) (pw b0 b1 b2 b3 4) W' (by omega) hsz hj rfl (by rw [List.length_map]; omega)
    simp only [encU] at hyd
    have hyd := yield_deep (n - 1 - 1 - 1) l' hyd
    obtain ⟨fn, tmps, assign, body, hy, hR⟩ := hyd
    have HR := Lib.hid hR
    obtain ⟨_, _, e0, glt, c0⟩ := byte_at hBb (show [b0, b1, b2, b3][0]? = some b0 from rfl)
    obtain ⟨_, _, e1, _, c1⟩ := byte_at hBb (show [b0, b1, b2, b3][1]? = some b1 from rfl)
    obtain ⟨_, _, e2, _, c2⟩ := byte_at hBb (show [b0, b1, b2, b3][2]? = some b2 from rfl)
    obtain ⟨_, _, e3, _, c3⟩ := byte_at hBb (show [b0, b1, b2, b3][3]? = some b3 from rfl)
    injection e0 with e0
    injection e0 with e0 f0 _
    injection e1 with e1
    injection e1 with e1 f1 _
    injection e2 with e2
    injection e2 with e2 f2 _
    injection e3 with e3
    injection e3 with e3 f3 _
    subst e0 f0 e1 f1 e2 f2 e3 f3
    rw [Nat.add_zero] at c0
    have HYB' := Lib.hid hYb
    have HBB := Lib.hid hBb
    clear hYb hBb hG4 hY4 bS bN hj hR
    gi_wp2
    gi_loopw [4, 12] (fun v i wr => wr = W' ∧ ∃ k : Nat, i = .int .i64 (k : Int) ∧ k ≤ 4 ∧ v = .int .u32 (pw b0 b1 b2 b3 k)) (fun _ i _ => 4 - (intOf i).toNat)
    case atStart => exact ⟨rfl, 0, rfl, by omega, by rw [HPW.out.1]⟩
    case round =>
      obtain ⟨rfl, k, rfl, hk, rfl⟩ := hrel
      rcases (show k = 0 ∨ k = 1 ∨ k = 2 ∨ k = 3 ∨ k = 4 by omega) with rfl | rfl | rfl | rfl | rfl
      · gi_wp2
        go_roundw
        case rel => exact ⟨trivial, 1, by go_num, by omega, by rw [← HPW.out.2.1]⟩
        case measure => simp [intOf]
      · gi_wp2
        go_roundw
        case rel => exact ⟨trivial, 2, by go_num, by omega, by rw [← HPW.out.2.2.1]⟩
        case measure => simp [intOf]
      · gi_wp2
        go_roundw
        case rel => exact ⟨trivial, 3, by go_num, by omega, by rw [← HPW.out.2.2.2.1]⟩
        case measure => simp [intOf]
      · gi_wp2
        go_roundw
        case rel => exact ⟨trivial, 4, by go_num, by omega, by rw [← HPW.out.2.2.2.2]⟩
        case measure => simp [intOf]
      · gi_wp2
        refine ⟨fun _ => by omega, HR.out.mono ?_⟩
        rintro e W5 ⟨⟨hbl5, hbn5, hk5⟩, (⟨rfl, hj5⟩ | ⟨rfl, hj5⟩)⟩
        · gi_wp2
          have hs5 := hbl5.size
          exact ⟨⟨by omega, fun k o hk h0 ho => (hk5 k (by omega) (Array.getElem?_eq_some_iff.1 h0).1).trans h0⟩, ⟨hbl5, hk5 _ (by omega) (by omega), hk5 _ (by omega) (by omega)⟩, by rw [List.map_append]; exact hj5, (hk5 _ (by omega) (by omega)).trans HYB'.out, rows_same HBB.out (hbl5.block g hgn) (by omega), by omega⟩
        · gi_wp2
          have hs5 := hbl5.size
          exact ⟨⟨hs5, fun k o hk h0 ho => (hk5 k (by omega) (Array.getElem?_eq_some_iff.1 h0).1).trans h0⟩, rfl, by rw [List.map_append]; exact hj5⟩
  case done =>
    rintro D ys W' hD rfl ⟨hj, hYb, hBb, hsz⟩ hK
    gi_wp2
    refine ⟨by simp, .inl ⟨_, _, rfl, run_takeDeferred hK, ?_⟩⟩
    exact ⟨_, results_none rfl _ _ _, ⟨_, rfl⟩, W4.heap.size, .inl ⟨_, rfl, (hJ _).putObj _ hj (by omega) hK rfl⟩⟩
  case stop =>
    rintro D cc pre W' hD hpre' ⟨rfl, hj⟩ hK
    gi_wp2
    refine ⟨by simp, .inl ⟨_, _, rfl, run_takeDeferred hK, ?_⟩⟩
    exact ⟨_, results_none rfl _ _ _, ⟨_, rfl⟩, W4.heap.size, .inr ⟨_, List.IsPrefix.map _ hpre', (hJx _).putObj _ hj (by omega) hK rfl⟩⟩
end
section
open Go.RowKit Go.Shelf
set_option linter.unusedVariables false
set_option linter.unusedSimpArgs false
attribute [local go_sem] Oper.semAt_some

theorem infoW : (Tryz.prog.info? 41).map (fun i => (i.zero, i.size, i.bytes)) = some (some (.int .u32 0), 1, 4) := by kernel_rfl
/-- What has been appended. -/
def OutW (V : Int) (oc C : Nat) (pre : List Int) (W : World) : Prop :=
  (pre = [] ∧ Blk W oc 22 #[.slice none 0 0]) ∨ (pre = [V] ∧ ∃ g c cs, C ≤ g ∧ Blk W oc 22 #[.slice (some ⟨g, 0, none⟩) 1 c] ∧ Blk W g 41 cs ∧ cs[0]? = some (.int .u32 V))
theorem outW_priv (V : Int) (oc B C : Nat) (hB : oc < B) : Priv B C (fun pre W => OutW V oc C pre W) := fun pre W W' row hs hg hr => by
  rcases hs with ⟨h1, h2⟩ | ⟨h1, g, c, cs, h2, h4, h5, h6⟩
  · exact .inl ⟨h1, h2.grown hg (fun e => by have := (hr _ e.symm).1; omega)⟩
  · refine .inr ⟨h1, g, c, cs, h2, h4.grown hg (fun e => by have := (hr _ e.symm).1; omega), h5.grown hg (fun e => ?_), h6⟩
    obtain ⟨_, h | ⟨o, ho, h⟩⟩ := hr _ e.symm
    · omega
    · rw [h5] at ho; injection ho with ho; subst ho; cases h
set_option maxRecDepth 100000 in
set_option maxHeartbeats 4000000 in
theorem words4_in (n : Nat) (hn : 16 ≤ n) (g off cv : Nat) (b0 b1 b2 b3 : Int) (h0 : 0 ≤ b0 ∧ b0 < 256) (h1 : 0 ≤ b1 ∧ b1 < 256) (h2 : 0 ≤ b2 ∧ b2 < 256) (h3 : 0 ≤ b3 ∧ b3 < 256) (hcv : 4 ≤ cv) (hcm : cv ≤ 9223372036854775807)
    (w : World) (hA : BytesAt w (some ⟨g, off, none⟩) [b0, b1, b2, b3]) :
    CallsIn Fence.wide n Tryz.prog 35 #[.slice (some ⟨g, off, none⟩) 4 cv] w fun e W' => ∃ g' c cs, e = .returned (.tuple #[.slice (some ⟨g', 0, none⟩) 1 c, .int .i64 0]) ∧ Blk W' g' 41 cs ∧ cs[0]? = some (.int .u32 (pw b0 b1 b2 b3 4)) ∧ Below w.heap.size w W' := by
  have hn1 : 1 ≤ n := by omega
  have HFI := Lib.hid (fun W => fours_in (n - 1) (some ⟨g, off, none⟩) 4 cv W)
  obtain ⟨i0, hi, hz0, hz1, hz2⟩ := info_parts infoW
  have hgl : g < w.heap.size := by
    obtain ⟨_, _, e, hl, _⟩ := byte_at hA (show [b0, b1, b2, b3][0]? = some b0 from rfl)
    injection e with e
    injection e with e _ _
    omega
  refine callsIn_of_wp_marks Tryz.func35 rfl trivial ?_ rfl
  simp only [Tryz.ntmps35, List.size_toArray, List.length_cons, List.length_nil, Nat.reduceAdd, Nat.reduceSub, Array.replicate_succ, Array.replicate_zero, List.push_toArray, List.append_toArray, List.nil_append, List.cons_append]
  gi_wp2
  refine wpIn_scope_straight ?_
  gi_wp2
  refine wpIn_label ?_
  gi_wp2_with (refine ⟨trivial, ?_⟩; gi_at_call 63; refine (HFI.out _).mono ?_; rintro e w' ⟨rfl, rfl⟩)
  have hBO := ((Blk.new w 22 #[.slice none 0 0]).alloc (.cells #[.bool true] 4)).alloc (.cells #[.slice (some ⟨g, off, none⟩) 4 cv] 39)
  have hBF := (Blk.new (w.alloc (.cells #[.slice none 0 0] 22)) 4 #[.bool true]).alloc (.cells #[.slice (some ⟨g, off, none⟩) 4 cv] 39)
  have hBN := Blk.new ((w.alloc (.cells #[.slice none 0 0] 22)).alloc (.cells #[.bool true] 4)) 39 #[.slice (some ⟨g, off, none⟩) 4 cv]
  have hb0 := (((Below.refl w.heap.size w).alloc (Nat.le_refl _) (.cells #[.slice none 0 0] 22)).alloc (by simp) (.cells #[.bool true] 4)).alloc (by simp; omega) (.cells #[.slice (some ⟨g, off, none⟩) 4 cv] 39)
  have hA0 := hA.below hb0
  have hsz : (((w.alloc (.cells #[.slice none 0 0] 22)).alloc (.cells #[.bool true] 4)).alloc (.cells #[.slice (some ⟨g, off, none⟩) 4 cv] 39)).heap.size = w.heap.size + 3 := by simp
  simp only [World.size_alloc] at hBF hBN
  generalize (((w.alloc (.cells #[.slice none 0 0] 22)).alloc (.cells #[.bool true] 4)).alloc (.cells #[.slice (some ⟨g, off, none⟩) 4 cv] 39)) = W0 at *
  refine wpIn_rangeFunc_R rfl hn1 (gf := 89) (lb := #[.pointer (some ⟨w.heap.size + 1 + 1, 0, none⟩)]) rfl trivial (enters_of Tryz.func89 (by kernel_rfl) rfl)
    (encs := encU) (Mm := fun x _ => x = pw b0 b1 b2 b3 4) (Kp := KpP w.heap.size (w.heap.size + 1 + 1) (W0.heap.size + 2)) (S := fun ys => ys = [pw b0 b1 b2 b3 4]) (Sp := fun pre => pre <+: [pw b0 b1 b2 b3 4]) (N := 1)
    (fun W hW hs => by
      have := fours1_seq (n - 1) (by omega) (W0.heap.size + 1) w.heap.size (w.heap.size + 1 + 1) g off cv b0 b1 b2 b3 h0 h1 h2 h3 hcv hcm W (hBN.below hW hBN.lt) (RowsAt.below hA0 hW) (by have := hW.size; omega) hgl
      rw [hs] at this
      exact this)
    kpP_t (kpP_b (by omega) (by omega)) (fun _ => rfl) (fun x => Own.from (own_pure (fun _ => x = pw b0 b1 b2 b3 4)) _)
    (fun C pre W => OutW (pw b0 b1 b2 b3 4) w.heap.size C pre W ∧ Blk W (w.heap.size + 1) 4 #[.bool true] ∧ Below w.heap.size w W)
    (fun C cc pre W => False)
    (fun C => Priv.and (outW_priv _ _ _ _ (by omega)) (Priv.and (blk_priv (fun _ => #[.bool true]) (by omega)) (below_priv (by omega) (by omega))))
    (fun C cc s W W' row hs hg hr => hs.elim)
    (fun C => ⟨.inl ⟨rfl, hBO⟩, hBF, hb0⟩)
    (fun x a' W => a' = { tmps := #[.slice (some ⟨g, off, none⟩) 4 cv, undef, .slice none 0 0, .int .i64 0, .pointer (some ⟨w.heap.size, 0, none⟩), .pointer (some ⟨w.heap.size + 1, 0, none⟩), .int .u32 x, .bool true, .slice (some ⟨g, off, none⟩) 4 cv,
      .func (.func 89) #[] #[.pointer (some ⟨w.heap.size + 1 + 1, 0, none⟩)], .int .u32 x, .bool true, undef, undef, undef, undef, undef, undef, undef, undef, undef, undef], defers := [] })
    (fun x a' _ X Y row hs hg hr => hs)
    ?assign ?body ?done ?stop
  case assign =>
    rintro l C pre x W K hC1 hC2 ⟨hO, hF, hB⟩ rfl hK
    simp only [encU] at hK ⊢
    gi_wp2
    exact hK _ _ (KeepsFrom.refl _ _) (kpP_r _ _ _ _) ⟨hO, hF, hB⟩ trivial rfl
  case body =>
    rintro l C pre x a' W hl1 hl2 hC1 hC2 ⟨hO, hF, hB⟩ rfl rfl hlt
    obtain rfl : pre = [] := List.eq_nil_of_length_eq_zero (by omega)
    obtain ⟨V, hV⟩ : ∃ V, pw b0 b1 b2 b3 4 = V := ⟨_, rfl⟩
    rw [hV] at hO ⊢
    have hO' : Blk W w.heap.size 22 #[.slice none 0 0] := by
      rcases hO with ⟨_, h⟩ | ⟨h, _⟩
      · exact h
      · cases h
    have HO := Lib.hid hO'
    have HF := Lib.hid hF
    have HB := Lib.hid hB
    have f0 := hF.cell 0
    have flt := hF.lt
    have ffr := hF.frozen 0
    have o0 := hO'.cell 0
    have olt := hO'.lt
    simp only [List.getElem?_toArray, List.getElem?_cons_zero] at f0 o0
    have hsB := hB.size
    clear hO hO' hF hB
    have ofr := HO.out.frozen 0
    have HOF := Lib.hid ofr
    gi_wp2
    generalize (Question.appendCap 1 0 41).cut (W.tape W.drawn (Question.appendCap 1 0 41)) = c
    have hs2 : ((W.setCell ⟨w.heap.size + 1, 0, none⟩ (.bool true)).setCell ⟨w.heap.size, 0, none⟩ (.slice (some ⟨W.heap.size + 1, 0, none⟩) 1 c)).heap.size = W.heap.size := by simp
    have hf2 : Blk ((W.setCell ⟨w.heap.size + 1, 0, none⟩ (.bool true)).setCell ⟨w.heap.size, 0, none⟩ (.slice (some ⟨W.heap.size + 1, 0, none⟩) 1 c)) (w.heap.size + 1) 4 #[.bool true] := Blk.far (p := ⟨w.heap.size, 0, none⟩) (show Blk (W.setCell ⟨w.heap.size + 1, 0, none⟩ (.bool true)) (w.heap.size + 1) 4 #[.bool true] from HF.out.set_ 0 (.bool true)) (by show w.heap.size + 1 ≠ w.heap.size; omega) _
    have ho2 : Blk ((W.setCell ⟨w.heap.size + 1, 0, none⟩ (.bool true)).setCell ⟨w.heap.size, 0, none⟩ (.slice (some ⟨W.heap.size + 1, 0, none⟩) 1 c)) w.heap.size 22 #[.slice (some ⟨W.heap.size + 1, 0, none⟩) 1 c] := (HO.out.far (p := ⟨w.heap.size + 1, 0, none⟩) (by show w.heap.size ≠ w.heap.size + 1; omega) (.bool true)).set_ 0 (.slice (some ⟨W.heap.size + 1, 0, none⟩) 1 c)
    have hb2 := (HB.out.setCell (p := ⟨w.heap.size + 1, 0, none⟩) (by simp) (.bool true)).setCell (p := ⟨w.heap.size, 0, none⟩) (Nat.le_refl _) (.slice (some ⟨W.heap.size + 1, 0, none⟩) 1 c)
    have hbw : Below w.heap.size W _ := ((Below.refl w.heap.size W).setCell (p := ⟨w.heap.size + 1, 0, none⟩) (by simp) (.bool true)).setCell (p := ⟨w.heap.size, 0, none⟩) (Nat.le_refl _) (.slice (some ⟨W.heap.size + 1, 0, none⟩) 1 c)
    have h2 : ∀ k, k ≠ w.heap.size + 1 → k ≠ w.heap.size → ((W.setCell ⟨w.heap.size + 1, 0, none⟩ (.bool true)).setCell ⟨w.heap.size, 0, none⟩ (.slice (some ⟨W.heap.size + 1, 0, none⟩) 1 c)).heap[k]? = W.heap[k]? := fun k e1 e2 => (Below.heap_setCell _ _ _ k e2).trans (Below.heap_setCell W _ _ k e1)
    generalize ((W.setCell ⟨w.heap.size + 1, 0, none⟩ (.bool true)).setCell ⟨w.heap.size, 0, none⟩ (.slice (some ⟨W.heap.size + 1, 0, none⟩) 1 c)) = W2 at *
    have hg := Blk.new (W2.alloc (.cells #[.int .u32 V] 41)) 41 (#[.int .u32 V] ++ Builtin.zeroCells #[.int .u32 0] (c - 1))
    rw [World.size_alloc, hs2] at hg
    have ha : ∀ k, k < W2.heap.size → (((W2.alloc (.cells #[.int .u32 V] 41)).alloc (.cells (#[.int .u32 V] ++ Builtin.zeroCells #[.int .u32 0] (c - 1)) 41)).drew).heap[k]? = W2.heap[k]? := fun k hk => (Below.heap_alloc _ _ k (by rw [World.size_alloc]; omega)).trans (Below.heap_alloc _ _ k hk)
    refine ⟨⟨by show W.heap.size ≤ ((W2.alloc _).alloc _).heap.size; rw [World.size_alloc, World.size_alloc]; omega, fun k o hk h0 ho => ?_⟩, ⟨?_, ?_, fun k hk hl => ?_⟩, .inr ⟨rfl, W.heap.size + 1, c, #[Value.int .u32 V] ++ Builtin.zeroCells #[Value.int .u32 0] (c - 1), by omega, ?_, hg.drew, by rw [Array.getElem?_append_left (by simp)]; rfl⟩, ?_, ?_⟩
    · have hl := (Array.getElem?_eq_some_iff.1 h0).1
      exact (ha k (by omega)).trans ((h2 k (by omega) (by omega)).trans h0)
    · exact ((hbw.alloc (by omega) _).alloc (by rw [World.size_alloc]; omega) _).drew
    · exact (ha _ (by omega)).trans (h2 _ (by omega) (by omega))
    · exact (ha k (by omega)).trans (h2 k (by omega) (by omega))
    · exact (ha _ (by omega)).trans ho2
    · exact (ha _ (by omega)).trans hf2
    · exact ((hb2.alloc (by omega) _).alloc (by rw [World.size_alloc]; omega) _).drew
  case done =>
    rintro D C ys W hD rfl ⟨hO, hF, hB⟩ hK
    obtain ⟨g', c, cs, hCg, hO', hG', hc0⟩ : ∃ g c cs, C ≤ g ∧ Blk W w.heap.size 22 #[.slice (some ⟨g, 0, none⟩) 1 c] ∧ Blk W g 41 cs ∧ cs[0]? = some (.int .u32 (pw b0 b1 b2 b3 4)) := by
      rcases hO with ⟨h, _⟩ | ⟨_, h⟩
      · cases h
      · exact h
    have HG' := Lib.hid hG'
    have HB := Lib.hid hB
    have f0 := hF.cell 0
    have flt := hF.lt
    have o0 := hO'.cell 0
    have olt := hO'.lt
    simp only [List.getElem?_toArray, List.getElem?_cons_zero] at f0 o0
    clear hO hO' hF hB hG'
    gi_wp2
    refine ⟨by simp, .inl ⟨_, _, rfl, run_takeDeferred hK, ?_⟩⟩
    exact ⟨_, results_tmp2 rfl _ _ _, g', c, cs, rfl, blk_putObj HG'.out hK, hc0, HB.out.trans (belowK_b (w := w) (Nat.le_refl _) W D _ _ (by omega) hK rfl rfl)⟩
  case stop =>
    rintro D C cc pre W _ _ h _
    exact h.elim

set_option maxRecDepth 100000 in
set_option maxHeartbeats 2000000 in
theorem read4_any (g off cv : Nat) (b0 b1 b2 b3 : Int) (h0 : 0 ≤ b0 ∧ b0 < 256) (h1 : 0 ≤ b1 ∧ b1 < 256) (h2 : 0 ≤ b2 ∧ b2 < 256) (h3 : 0 ≤ b3 ∧ b3 < 256) (hcv : 4 ≤ cv) (hcm : cv ≤ 9223372036854775807)
    (w : World) (hA : BytesAt w (some ⟨g, off, none⟩) [b0, b1, b2, b3]) :
    Calls Tryz.prog 15 #[.slice (some ⟨g, off, none⟩) 4 cv] w fun e W' => e = .returned (.tuple #[.int .u32 (pw b0 b1 b2 b3 4), .int .i64 0]) ∧ Below w.heap.size w W' := by
  have HW := Lib.hid (callsIn_wide.1 (words4_in 16 (Nat.le_refl _) g off cv b0 b1 b2 b3 h0 h1 h2 h3 hcv hcm w hA))
  clear h0 h1 h2 h3 hcv hcm hA
  generalize pw b0 b1 b2 b3 4 = V at *
  go_enter Tryz.func15, Tryz.ntmps15
  go_wp2_with fail
  refine HW.out.mono ?_
  rintro e W1 ⟨g', c, cs, rfl, hG, hc0, hb1⟩
  have HB1 := Lib.hid hb1
  have g0 : W1.cell? ⟨g', 0, none⟩ = some (.int .u32 V) := (hG.cell 0).trans hc0
  have glt := hG.lt
  clear hb1 hG hc0 HW
  go_wp2
  go_ret2
  exact ⟨rfl, HB1.out⟩
end
end
section
open Go.RowKit Go.Shelf
set_option linter.unusedVariables false
set_option linter.unusedSimpArgs false
attribute [local go_sem] Oper.semAt_some

theorem bytesL_at : ∀ {ws : List Int} {k : Nat} {x : Int}, ws[k]? = some x → ∀ j, j < 4 → (bytesL ws).getD (4 * k + j) 0 = (b4 x).getD j 0
  | [], k, x, h, _, _ => by simp at h
  | y :: ws, 0, x, h, j, hj => by
    injection h with h
    subst h
    unfold bytesL
    rw [List.flatMap_cons, Nat.mul_zero, Nat.zero_add, List.getD_eq_getElem?_getD, List.getElem?_append_left (by simp [b4]; omega), List.getD_eq_getElem?_getD]
  | y :: ws, k + 1, x, h, j, hj => by
    have ih := bytesL_at (ws := ws) (k := k) (x := x) (by simpa using h) j hj
    have e : bytesL (y :: ws) = b4 y ++ bytesL ws := by unfold bytesL; rw [List.flatMap_cons]
    rw [e, List.getD_eq_getElem?_getD, List.getElem?_append_right (by simp [b4]; omega), show 4 * (k + 1) + j - (b4 y).length = 4 * k + j from by simp [b4]; omega, ← List.getD_eq_getElem?_getD]
    exact ih
theorem page_word {ws : List Int} {k : Nat} {x : Int} (h : ws[k]? = some x) : ((pageL (bytesL ws) (k / 16)).drop (4 * (k % 16))).take 4 = b4 x := by
  refine List.ext_getElem? fun j => ?_
  by_cases hj : j < 4
  · rw [List.getElem?_take_of_lt hj, List.getElem?_drop, pageL_at _ _ (by omega), show 64 * (k / 16) + (4 * (k % 16) + j) = 4 * k + j from by omega, bytesL_at h j hj, List.getD_eq_getElem?_getD]
    have : j < (b4 x).length := by simp [b4]; omega
    rw [List.getElem?_eq_getElem this]
    rfl
  · rw [List.getElem?_eq_none (by rw [List.length_take]; omega), List.getElem?_eq_none (by simp [b4]; omega)]
theorem bytes_sub {W : World} {g : Nat} {bs : List Int} (h : BytesAt W (some ⟨g, 0, none⟩) bs) (q m : Nat) : BytesAt W (some ⟨g, q, none⟩) ((bs.drop q).take m) := fun i r hr => by
  rw [List.getElem?_map] at hr
  obtain ⟨x, hx, rfl⟩ := Option.map_eq_some_iff.1 hr
  rw [List.getElem?_take] at hx
  split at hx
  · rw [List.getElem?_drop] at hx
    obtain ⟨b, off, hA, hlt, hc⟩ := h (q + i) (bC x) (by rw [List.getElem?_map, hx]; rfl)
    injection hA with hA
    injection hA with e1 e2 _
    subst e1 e2
    exact ⟨g, q, rfl, hlt, fun j v hv => by have := hc j v hv; simpa [Nat.mul_one] using this⟩
  · cases hx
theorem pw_b4 {x : Int} (h0 : 0 ≤ x) (h1 : x ≤ 4294967295) : pw (x % 256) (x / 256 % 256) (x / 65536 % 256) (x / 16777216) 4 = x := by
  unfold pw
  simp only [Nat.zero_lt_succ, if_true, show (1 : Nat) < 4 from by decide, show (2 : Nat) < 4 from by decide, show (3 : Nat) < 4 from by decide]
  omega

set_option maxRecDepth 100000 in
set_option maxHeartbeats 16000000 in
theorem bootWords_any {w : World} (hG : GB w) (c f p q : Int) (A : Option Addr) (ca : Nat) (ws : List Int) (hA : WordsAt w A ws) (hl : ws.length ≤ maxLen) (hw : Words ws) (i : Int) (hi0 : 0 ≤ i) (hi1 : i ≤ 65535) :
    Calls Tryz.prog 4 #[.agg #[.int .i64 c, .int .i64 f, .int .i64 p, .int .i64 q, .slice A ws.length ca], .int .u16 i] w fun e w' => e = .returned (.bool true) ∧ Below w.heap.size w w' := by
  have hb0 := (Below.refl w.heap.size w).alloc (Nat.le_refl _) (.cells #[.int .i64 c, .int .i64 f, .int .i64 p, .int .i64 q, .slice A ws.length ca] 24)
  have hx0 := Blk.new w 24 #[.int .i64 c, .int .i64 f, .int .i64 p, .int .i64 q, .slice A ws.length ca]
  have HAL := Lib.hid (alive_any (hG.below hb0))
  have HB0 := Lib.hid hb0
  have HX0 := Lib.hid hx0
  have HC := Lib.hid (fun W => check_any (w := W) c f p q A ws.length ca (by unfold maxLen at hl; omega))
  unfold bootV at HC
  cases hm : mayB c f p q ws.length
  · rw [hm] at HC
    simp only [Bool.false_eq_true, if_false] at HC
    clear hA hw hG hb0 hx0 hm
    go_enter Tryz.func4, Tryz.ntmps4
    go_wp2_with fail
    refine HAL.out.mono ?_
    rintro e W1 ⟨rfl, hb1⟩
    obtain ⟨x0, x1, x2, x3, x4, xlt⟩ := rcells' (HX0.out.below hb1 HX0.out.lt)
    have HB := Lib.hid (bl_step HB0.out hb1)
    clear hb1
    go_wp2_with fail
    refine (HC.out _).mono ?_
    rintro e W2 ⟨rfl, hb2⟩
    have HB2 := Lib.hid (bl_step HB.out hb2)
    clear hb2 x0 x1 x2 x3 x4 xlt
    go_wp2
    go_ret
    exact ⟨rfl, HB2.out⟩
  rw [hm] at HC
  simp only [if_true] at HC
  have hin := (mayB_iff c f p q ws.length).1 hm
  have hn1 : 1 ≤ ws.length := by omega
  have hn2 : ws.length ≤ 512 := by omega
  obtain ⟨m, rfl⟩ := Int.eq_ofNat_of_zero_le hi0
  obtain ⟨k, hk⟩ : ∃ k, m % ws.length = k := ⟨_, rfl⟩
  have hkl : k < ws.length := by rw [← hk]; exact Nat.mod_lt _ (by omega)
  have ht : ((m : Nat) : Int).tmod (ws.length : Int) = (k : Int) := by rw [← hk]; exact (Int.ofNat_tmod m ws.length).symm
  obtain ⟨np, hnp⟩ : ∃ np : Nat, np = (ws.length + 15) / 16 := ⟨_, rfl⟩
  have hnpi : ((ws.length : Int) + 15) / 16 = (np : Int) := by omega
  have hxe : ws[k]? = some ws[k] := List.getElem?_eq_getElem hkl
  obtain ⟨x, hx⟩ : ∃ x, ws[k] = x := ⟨_, rfl⟩
  rw [hx] at hxe
  have hxr := hw k x hxe
  have hpw := pw_b4 hxr.1 hxr.2
  have HPG := Lib.hid (fun W (hW : Below w.heap.size w W) => show Calls Tryz.prog 16 #[.agg #[.int .i64 c, .int .i64 f, .int .i64 p, .int .i64 q, .slice A ws.length ca]] W fun e w' => e = .returned (.int .i64 (np : Int)) ∧ Below W.heap.size W w' from by
    have h := callsIn_wide.1 (bootPages_in 16 (by omega) c f p q A ca ws (by omega) hw W (RowsAt.below hA hW))
    rw [hm] at h
    rw [hnp]
    exact h)
  have HBY := Lib.hid (fun W (hW : Below w.heap.size w W) => show Calls Tryz.prog 14 #[.agg #[.int .i64 c, .int .i64 f, .int .i64 p, .int .i64 q, .slice A ws.length ca], .int .i64 ((k : Int) / 16)] W fun e w' => ∃ g cb, e = .returned (.slice (some ⟨g, 0, none⟩) 64 cb) ∧ 64 ≤ cb ∧ cb ≤ 9223372036854775807 ∧ Hid (BytesAt w' (some ⟨g, 4 * (k % 16), none⟩) [x % 256, x / 256 % 256, x / 65536 % 256, x / 16777216]) ∧ Below W.heap.size W w' from by
    refine (callsIn_wide.1 (bootBytes_in 16 (by omega) c f p q ((k : Int) / 16) A ca ws (by omega) hw W (RowsAt.below hA hW))).mono fun e w' hR => ?_
    obtain ⟨v, h1, h2, h3⟩ := hR
    have e1 : pageOf (mayB c f p q ws.length) ws ((k : Int) / 16) = pageL (bytesL ws) (k / 16) := by
      unfold pageOf
      rw [hm, if_pos ⟨by omega, by show (k : Int) / 16 < ((pagesN true ws.length : Nat) : Int); unfold pagesN; rw [if_pos rfl]; omega⟩]
      congr 1
    rw [e1] at h2
    obtain ⟨g, cb, rfl, _, hc1, hc2, hB, _⟩ := ownB_some h2 (by rw [pageL_len]; decide)
    rw [pageL_len] at h1 hc1
    have hs := bytes_sub hB (4 * (k % 16)) 4
    rw [page_word hxe] at hs
    exact ⟨g, cb, h1, hc1, hc2, hs, h3⟩)
  have HBN := Lib.hid (fun W (hW : Below w.heap.size w W) (pg : Int) (hp : pg = (np : Int) ∨ pg = -1) => show Calls Tryz.prog 14 #[.agg #[.int .i64 c, .int .i64 f, .int .i64 p, .int .i64 q, .slice A ws.length ca], .int .i64 pg] W fun e w' => ∃ B cb, e = .returned (.slice B 0 cb) ∧ Below W.heap.size W w' from by
    refine (callsIn_wide.1 (bootBytes_in 16 (by omega) c f p q pg A ca ws (by omega) hw W (RowsAt.below hA hW))).mono fun e w' hR => ?_
    obtain ⟨v, h1, h2, h3⟩ := hR
    have e1 : pageOf (mayB c f p q ws.length) ws pg = [] := by
      unfold pageOf
      rw [hm, if_neg]
      rintro ⟨ha, hb⟩
      unfold pagesN at hb
      rw [if_pos rfl] at hb
      omega
    rw [e1] at h2
    obtain ⟨B, cb, rfl, _, _⟩ := ownB_at h2
    exact ⟨B, cb, h1, h3⟩)
  have HRD := Lib.hid (fun W g off cv (h1 : 4 ≤ cv) (h2 : cv ≤ 9223372036854775807) (hB : BytesAt W (some ⟨g, off, none⟩) [x % 256, x / 256 % 256, x / 65536 % 256, x / 16777216]) => show Calls Tryz.prog 15 #[.slice (some ⟨g, off, none⟩) 4 cv] W fun e W' => e = .returned (.tuple #[.int .u32 x, .int .i64 0]) ∧ Below W.heap.size W W' from by
    have h := read4_any g off cv _ _ _ _ (by omega) (by omega) (by omega) (by omega) h1 h2 W hB
    rw [hpw] at h
    exact h)
  have HXC := Lib.hid (fun W (hW : Below w.heap.size w W) => word_at (RowsAt.below hA hW) hxe)
  obtain ⟨r, hr⟩ : ∃ r, k % 16 = r := ⟨_, rfl⟩
  have hr16 : r < 16 := by omega
  have ht2 : (k : Int).tmod 16 = (r : Int) := by rw [← hr]; exact (Int.ofNat_tmod k 16).symm
  rw [hr] at HBY
  obtain ⟨qq, hqq⟩ : ∃ qq, 4 * r = qq := ⟨_, rfl⟩
  have hq1 : 4 * (r : Int) = (qq : Int) := by omega
  have hqb : qq ≤ 60 := by omega
  rw [hqq] at HBY
  have hz0 : ¬ (ws.length : Int) = 0 := by omega
  have hk0 : (0 : Int) ≤ (k : Int) := by omega
  have hk1 : (k : Int) < (ws.length : Int) := by omega
  have hm1 : (m : Int) ≤ 65535 := hi1
  clear hA hw hG hb0 hx0 hm hin hxe hx hxr hpw hnp hk hqq hr hi0
  generalize ws.length = L at *
  go_enter Tryz.func4, Tryz.ntmps4
  go_wp2_with fail
  refine HAL.out.mono ?_
  rintro e W1 ⟨rfl, hb1⟩
  have HX1 := Lib.hid (HX0.out.below hb1 HX0.out.lt)
  obtain ⟨x0, x1, x2, x3, x4, xlt⟩ := rcells' HX1.out
  have HB1 := Lib.hid (bl_step HB0.out hb1)
  clear hb1 HX0 HB0 HAL
  go_wp2_with fail
  refine (HC.out _).mono ?_
  rintro e W2 ⟨rfl, hb2⟩
  have HX2 := Lib.hid (HX1.out.below hb2 HX1.out.lt)
  have HB2 := Lib.hid (bl_step HB1.out hb2)
  clear hb2 x0 x1 x2 x3 x4 xlt HX1 HB1
  obtain ⟨x0, x1, x2, x3, x4, xlt⟩ := rcells' HX2.out
  go_wp2_with fail
  refine (HBY.out _ HB2.out).mono ?_
  rintro e W3 ⟨g, cb, rfl, hc1, hc2, HG3, hb3⟩
  have HX3 := Lib.hid (HX2.out.below hb3 HX2.out.lt)
  have HB3 := Lib.hid (bl_step HB2.out hb3)
  clear hb3 x0 x1 x2 x3 x4 xlt HX2 HB2 HBY
  obtain ⟨x0, x1, x2, x3, x4, xlt⟩ := rcells' HX3.out
  have hci : (64 : Int) ≤ (cb : Int) := by omega
  have hqc : (qq : Int) + 4 ≤ (cb : Int) := by omega
  have hq0 : (0 : Int) ≤ (qq : Int) := by omega
  have hqn : ¬ cb = qq := by omega
  go_wp2_with fail
  refine (HRD.out _ g qq (cb - qq) (by omega) (by omega) HG3.out).mono ?_
  rintro e W4 ⟨rfl, hb4⟩
  have HX4 := Lib.hid (HX3.out.below hb4 HX3.out.lt)
  have HB4 := Lib.hid (bl_step HB3.out hb4)
  clear hb4 x0 x1 x2 x3 x4 xlt HX3 HB3 HRD HG3
  obtain ⟨x0, x1, x2, x3, x4, xlt⟩ := rcells' HX4.out
  go_wp2_with fail
  refine (HPG.out _ HB4.out).mono ?_
  rintro e W5 ⟨rfl, hb5⟩
  have HX5 := Lib.hid (HX4.out.below hb5 HX4.out.lt)
  have HB5 := Lib.hid (bl_step HB4.out hb5)
  clear hb5 x0 x1 x2 x3 x4 xlt HX4 HB4 HPG
  obtain ⟨x0, x1, x2, x3, x4, xlt⟩ := rcells' HX5.out
  obtain ⟨bA, oA, rfl, blt, cA⟩ := HXC.out _ HB5.out
  go_wp2_with fail
  refine (HBN.out _ HB5.out _ (.inl rfl)).mono ?_
  rintro e W6 ⟨B6, c6, rfl, hb6⟩
  have HX6 := Lib.hid (HX5.out.below hb6 HX5.out.lt)
  have HB6 := Lib.hid (bl_step HB5.out hb6)
  clear hb6 x0 x1 x2 x3 x4 xlt HX5 HB5 blt cA
  obtain ⟨x0, x1, x2, x3, x4, xlt⟩ := rcells' HX6.out
  go_wp2_with fail
  refine (HBN.out _ HB6.out _ (.inr rfl)).mono ?_
  rintro e W7 ⟨B7, c7, rfl, hb7⟩
  have HB7 := Lib.hid (bl_step HB6.out hb7)
  clear hb7 x0 x1 x2 x3 x4 xlt HX6 HB6
  go_wp2
  go_ret
  exact ⟨by first | rfl | (simp; done), HB7.out⟩
end
end Go.Proofs.YtpikgebfeleajaaGreatDoor
