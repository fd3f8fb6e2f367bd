/-
  isa.lines: the iterator over a text's lines without their ends. No condition but the text's length.
-/
import Derived.RangeFuncNested
import Derived.Test.YtpikgebfeleajaaGreatDoorSeqC
import Derived.Test.YtpikgebfeleajaaGreatDoorLines
import Derived.Test.YtpikgebfeleajaaGreatDoorIs6
namespace Go.Proofs.YtpikgebfeleajaaGreatDoor.I
open Go.RowKit Go.Shelf
set_option linter.unusedVariables false
set_option linter.unusedSimpArgs false
attribute [local go_sem] Oper.semAt_some

theorem room_none (k : Nat) : Fence.wide.room k := fun d h => by cases h
theorem yield_deep {m : Nat} (m' l' : Nat) {P : Program} {l : Nat} {args : Array Value} {W : World} {R : Ending → World → Prop} (h : YieldAt Fence.wide m P l args W R) : YieldAt (Fence.wide.inRound l') m' P l args W R := by
  obtain ⟨fn, tmps, assign, body, hy, h1, h2⟩ := h
  exact ⟨fn, tmps, assign, body, hy, h1, fun c cs _ => h2 c cs (room_none _)⟩

/-! ## plain -/
theorem hasSuf_one (c : UInt8) (l : List UInt8) : Lib.hasSuffix l [c] = decide (l.getLast? = some c) := by
  unfold Lib.hasSuffix
  rcases List.eq_nil_or_concat l with rfl | ⟨r, d, rfl⟩
  · simp
  · rw [List.concat_eq_append, Bool.eq_iff_iff]
    simp only [List.isSuffixOf_iff_suffix, decide_eq_true_eq, List.getLast?_append, List.getLast?_singleton, Option.some_or, Option.some.injEq]
    constructor
    · rintro ⟨t, ht⟩
      have := congrArg List.getLast? ht
      simpa using this.symm
    · rintro rfl
      exact ⟨r, rfl⟩
theorem trimSuf_one (c : UInt8) (l : List UInt8) : Lib.trimSuffix l [c] = if l.getLast? = some c then l.dropLast else l := by
  unfold Lib.trimSuffix
  rw [hasSuf_one]
  by_cases h : l.getLast? = some c
  · simp [h, List.dropLast_eq_take]
  · simp [h]
def cutX (x : ByteArray) : ByteArray × Bool := (⟨(Lib.trimSuffix (toL x) [10]).toArray⟩, Lib.hasSuffix (toL x) [10])
def toLW (x : ByteArray × Bool) : List UInt8 × Bool := (toL x.1, x.2)
def encLW (x : ByteArray × Bool) : Array Value := #[.string x.1, .bool x.2]
theorem cutX_nl (x : ByteArray) : toLW (cutX x) = cutNl (toL x) := by
  unfold toLW cutX cutNl cutSuf
  rw [hasSuf_one, trimSuf_one]
  show (((if (toL x).getLast? = some 10 then (toL x).dropLast else toL x).toArray.toList, decide ((toL x).getLast? = some 10)) : List UInt8 × Bool) = _
  by_cases h : (toL x).getLast? = some 10
  · rw [if_pos h, if_pos h, decide_eq_true h]
  · rw [if_neg h, if_neg h, decide_eq_false h]
theorem cutX_size (x : ByteArray) : (cutX x).1.size ≤ x.size := by
  have h : (cutX x).1.size = (Lib.trimSuffix (toL x) [10]).length := List.size_toArray
  rw [h, trimSuf_one]
  have h2 : (toL x).length = x.size := by unfold toL; rw [Array.length_toList]; rfl
  split
  · rw [List.length_dropLast]; omega
  · omega
/-- What a round keeps: the iterator's own blocks, and whatever is no cells. -/
def KpI (B C : Nat) (X Y : World) : Prop := KeepsFrom B X Y ∧ ∀ k, B ≤ k → k < C → Y.heap[k]? = X.heap[k]?
theorem kpI_t {B C : Nat} {X Y Z : World} (h : KpI B C X Y) (k : KpI B C Y Z) : KpI B C X Z := ⟨h.1.trans k.1, fun i h1 h2 => (k.2 i h1 h2).trans (h.2 i h1 h2)⟩

theorem linesI_in (n : Nat) (s : ByteArray) (w : World) :
    CallsIn Fence.wide n Tryz.prog 52 #[.string s] w fun e w' => e = .returned (.func (.func 80) #[] #[.pointer (some ⟨w.heap.size, 0, none⟩)]) ∧ w' = w.alloc (.cells #[.string s] 9) := by
  refine callsIn_of_wp Tryz.func52 rfl trivial ?_ rfl
  simp only [Tryz.ntmps52, List.size_toArray, List.length_cons, List.length_nil, Nat.reduceAdd, Nat.reduceSub, Array.replicate_succ, Array.replicate_zero, List.push_toArray, List.append_toArray, List.nil_append, List.cons_append]
  gi_wp2
  go_ret
  exact ⟨rfl, rfl⟩

set_option maxRecDepth 100000 in
set_option maxHeartbeats 4000000 in
theorem lines1_seq (n : Nat) (hn : 6 ≤ n) (l Bn : Nat) (s : ByteArray) (hs : s.size ≤ 1000000) (W : World) (hBn : Blk W Bn 9 #[.string s]) :
    SeqC Fence.wide n Tryz.prog 80 #[.pointer (some ⟨Bn, 0, none⟩)] encLW (fun x _ => x.1.size ≤ s.size) (KpI W.heap.size) (fun xs => xs.map toLW = (lns (toL s)).map cutNl) (fun pre => pre.map toLW <+: (lns (toL s)).map cutNl) 1000000 l W := by
  intro J Jx hJ hJx hY h0
  have h1 : 1 ≤ n := by omega
  have x0 := hBn.cell 0
  have xlt := hBn.lt
  simp only [List.getElem?_toArray, List.getElem?_cons_zero] at x0
  have hb0 := ((Below.refl W.heap.size W).alloc (Nat.le_refl _) (.cells #[.func (.yield l) #[] #[]] 138)).alloc (by simp) (.cells #[.string s] 9)
  have hY0 := (Blk.new W 138 #[.func (.yield l) #[] #[]]).alloc (.cells #[.string s] 9)
  have hS0 := Blk.new (W.alloc (.cells #[.func (.yield l) #[] #[]] 138)) 9 #[.string s]
  rw [World.size_alloc] at hS0
  have hsz : ((W.alloc (.cells #[.func (.yield l) #[] #[]] 138)).alloc (.cells #[.string s] 9)).heap.size = W.heap.size + 2 := by simp
  have HLI := Lib.hid (fun V => lines_in (n - 1) s V)
  have HS := Lib.hid h0
  clear h0
  refine callsIn_of_wp_marks Tryz.func80 rfl trivial ?_ rfl
  simp only [Tryz.ntmps80, List.size_toArray, List.length_cons, List.length_nil, Nat.reduceAdd, Nat.reduceSub, Array.replicate_succ, Array.replicate_zero, List.push_toArray, List.append_toArray, List.nil_append, List.cons_append]
  gi_wp2_with (refine ⟨trivial, ?_⟩; gi_at_call 81; refine (HLI.out _).mono ?_; rintro e w1 ⟨rfl, rfl⟩)
  obtain ⟨W0, hW0⟩ : ∃ W0, (W.alloc (.cells #[.func (.yield l) #[] #[]] 138)).alloc (.cells #[.string s] 9) = W0 := ⟨_, rfl⟩
  rw [hW0] at hb0 hY0 hS0 hsz ⊢
  clear hW0
  refine wpIn_rangeFunc_B (Bs := W.heap.size + 1) (by omega) rfl h1 (gf := 108) (lb := #[.pointer (some ⟨W.heap.size + 1, 0, none⟩)]) rfl trivial (enters_of Tryz.func108 (by kernel_rfl) rfl)
    (encs := encL) (Mm := fun x _ => x.size ≤ s.size) (Kp := KpL (W.heap.size + 1)) (S := fun xs => xs.map toL = lns (toL s)) (Sp := fun pre => pre.map toL <+: lns (toL s)) (N := 1000000)
    (fun V hV hs' => lines1_in (W0.heap.size + 1) (W.heap.size + 1) s hs (n - 1) (by omega) V (by have := hV.size; omega) (hS0.below hV hS0.lt))
    kpL_t (fun V r o' _ => kpL_b (by omega) V o') (fun _ => rfl) (fun x _ _ _ _ h _ _ => h)
    (fun C pre V => W.heap.size + 4 ≤ C → J C (pre.map cutX) V ∧ Blk V W.heap.size 138 #[.func (.yield l) #[] #[]])
    (fun C c pre V => W.heap.size + 4 ≤ C → c = .ret ∧ Jx C (pre.map cutX) V)
    (fun C s' X Y row hs' hg hr hC => ⟨hJ C _ X Y row (hs' hC).1 hg (fun r e => (hr r e).elim (fun h => ⟨by omega, .inl (by omega)⟩) (fun h => ⟨by have := h.1; omega, h.2⟩)), (hs' hC).2.grown hg (fun e => by rcases hr _ e.symm with h | h <;> omega)⟩)
    (fun C c s' X Y row hs' hg hr hC => ⟨(hs' hC).1, hJx C _ X Y row (hs' hC).2 hg (fun r e => (hr r e).elim (fun h => ⟨by omega, .inl (by omega)⟩) (fun h => ⟨by have := h.1; omega, h.2⟩))⟩)
    (fun C hC => ⟨(hJ C).below (HS.out C) hb0, hY0⟩)
    (fun x a' _ => a' = { tmps := #[.func (.yield l) #[] #[], .pointer (some ⟨Bn, 0, none⟩), .pointer (some ⟨W.heap.size, 0, none⟩), .string x, undef, undef, .string s,
      .func (.func 108) #[] #[.pointer (some ⟨W.heap.size + 1, 0, none⟩)], .string x, undef, undef, undef, undef, undef, undef, undef, undef, undef, undef], defers := [] })
    (fun x a' _ X Y row hs hg hr => hs)
    ?assign ?body ?done ?stop
  case assign =>
    rintro l' C pre x V K hC1 hC2 hi hmm hK
    simp only [encL] at hK ⊢
    gi_wp2
    exact hK _ _ (KeepsFrom.refl _ _) ⟨Nat.le_refl _, rfl⟩ hi hmm rfl
  case body =>
    rintro l' C pre x a' V hl1 hl2 hC1 hC2 hi hmm rfl hlt
    obtain ⟨hj, hyb⟩ := hi (by omega)
    obtain ⟨t, ht⟩ : ∃ t : ByteArray, t = (cutX x).1 := ⟨_, rfl⟩
    obtain ⟨q, hq⟩ : ∃ q : Bool, q = (cutX x).2 := ⟨_, rfl⟩
    have HCS := Lib.hid (fun V' => show CallsIn (Fence.wide.inRound l') (n - 1 - 1 - 1) Tryz.prog 82 #[.string x, .string ⟨#[10]⟩] V' fun e w' => e = .returned (.tuple #[.string t, .bool q]) ∧ w' = V' from
      callsIn_wide.2 (by rw [ht, hq]; exact Tryz.strings_CutSuffix x ⟨#[10]⟩ V' (by omega)))
    have hyd := hY C (pre.map cutX) (cutX x) V (by omega) hC2 hj (Nat.le_trans (cutX_size x) hmm) (by simpa using hlt)
    have hmap : pre.map cutX ++ [cutX x] = (pre ++ [x]).map cutX := by simp
    rw [hmap] at hyd
    simp only [encLW] at hyd
    rw [← ht, ← hq] at hyd
    have hyd := yield_deep (n - 1 - 1 - 1) l' hyd
    obtain ⟨fn, tmps, assign, body, hy, hR⟩ := hyd
    have y0 := hyb.cell 0
    have ylt := hyb.lt
    simp only [List.getElem?_toArray, List.getElem?_cons_zero] at y0
    have HYB := Lib.hid hyb
    have HR := Lib.hid hR
    clear hyb hR hi hj ht hq
    gi_wp2_with (refine ⟨trivial, fun _ => by omega, ?_⟩; refine (HCS.out _).mono ?_; rintro e w3 ⟨rfl, rfl⟩)
    refine ⟨fun _ => by omega, HR.out.mono ?_⟩
    rintro e V5 ⟨hk5, (⟨rfl, hj5⟩ | ⟨rfl, hj5⟩)⟩
    · gi_wp2
      exact ⟨⟨hk5.1.size, fun k o hk ho hc => hk5.1.same k o (by omega) ho hc⟩, ⟨hk5.1.size, hk5.2 _ (by omega) (by omega)⟩, fun _ => ⟨hj5, (hk5.2 _ (Nat.le_refl _) (by omega)).trans HYB.out⟩⟩
    · gi_wp2
      exact ⟨⟨hk5.1.size, fun k o hk ho hc => hk5.1.same k o (by omega) ho hc⟩, ⟨hk5.1.size, hk5.2 _ (by omega) (by omega)⟩, fun _ => ⟨rfl, hj5⟩⟩
  case done =>
    rintro D C ys V hD hC hys hi hK
    obtain ⟨hj, hyb⟩ := hi (by omega)
    gi_wp2
    refine ⟨by simp, .inl ⟨_, _, rfl, run_takeDeferred hK, ?_⟩⟩
    exact ⟨_, results_none rfl _ _ _, ⟨_, rfl⟩, C, by omega, .inl ⟨ys.map cutX, by rw [← hys, List.map_map, List.map_map]; exact List.map_congr_left fun x _ => cutX_nl x, (hJ _).putObj _ hj (by omega) hK rfl⟩⟩
  case stop =>
    rintro D C cc pre V hD hC hpre' hix hK
    obtain ⟨rfl, hj⟩ := hix (by omega)
    gi_wp2
    refine ⟨by simp, .inl ⟨_, _, rfl, run_takeDeferred hK, ?_⟩⟩
    obtain ⟨r, hr⟩ := hpre'
    exact ⟨_, results_none rfl _ _ _, ⟨_, rfl⟩, C, by omega, .inr ⟨pre.map cutX, ⟨r.map cutNl, by rw [← hr, List.map_append, List.map_map, List.map_map]; exact congrArg (· ++ _) (List.map_congr_left fun x _ => cutX_nl x)⟩, (hJx _).putObj _ hj (by omega) hK rfl⟩⟩
end Go.Proofs.YtpikgebfeleajaaGreatDoor.I
