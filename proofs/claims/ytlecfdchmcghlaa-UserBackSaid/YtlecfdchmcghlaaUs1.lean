/-
  user.from: the bytes from an address on, told one by one, each with whether it is mapped. Condition: the space and the frames lie in blocks of their own; each page's frame is used, and of that page alone within the space.
-/
import Derived.Test.YtlecfdchmcghlaaSpQB
import Derived.Test.YtlecfdchmcghlaaSeqP
namespace Go.Proofs.Ytlecfdchmcghlaa
open Go.RowKit Go.Shelf
set_option linter.unusedVariables false
set_option linter.unusedSimpArgs false
attribute [local go_sem] Oper.semAt_some

/-- What is told at place k. -/
def itF (F : Fs) (m : M) (a k : Nat) : Int × Bool := if a < 4096 then ((byteP F m (a + k)).getD 0, (byteP F m (a + k)).isSome) else (0, false)
def itL (F : Fs) (m : M) (a k : Nat) : List (Int × Bool) := (List.range k).map (itF F m a)
theorem itL_succ (F : Fs) (m : M) (a k : Nat) : itL F m a (k + 1) = itL F m a k ++ [itF F m a k] := by
  unfold itL
  rw [List.range_succ, List.map_append]; rfl
theorem itL_len (F : Fs) (m : M) (a k : Nat) : (itL F m a k).length = k := by unfold itL; rw [List.length_map, List.length_range]
theorem itL_prefix (F : Fs) (m : M) (a : Nat) : ∀ j k, k ≤ j → itL F m a k <+: itL F m a j
  | 0, k, h => by
    have : k = 0 := by omega
    subst this
    exact List.prefix_rfl
  | j + 1, k, h => by
    by_cases hk : k = j + 1
    · subst hk; exact List.prefix_rfl
    · rw [itL_succ]
      exact (itL_prefix F m a j k (by omega)).trans (List.prefix_append _ _)
def encB (x : Int × Bool) : Array Value := #[.int .u8 x.1, .bool x.2]
/-- What a round keeps: all that lay ahead of the loop, and the three boxes. -/
def KpF (B b0 : Nat) (X Y : World) : Prop := Below B X Y ∧ B ≤ X.heap.size ∧ ∀ (k : Nat) (t : TypeId) (cs : Array Value), b0 ≤ k → k < b0 + 3 → Blk X k t cs → Blk Y k t cs
theorem KpF.t {B b0 : Nat} {X Y Z : World} (h : KpF B b0 X Y) (k : KpF B b0 Y Z) : KpF B b0 X Z := ⟨h.1.trans k.1, h.2.1, fun i t cs h1 h2 h3 => k.2.2 i t cs h1 h2 (h.2.2 i t cs h1 h2 h3)⟩
theorem KpF.b {B b0 : Nat} (W : World) (l : Nat) (o o' : Obj) (hl : B ≤ l) (h : W.heap[l]? = some o) (hc : o.isCells = false) : KpF B b0 W (W.putObj l o') :=
  ⟨⟨rfl, rfl, rfl, by simp [World.putObj], fun k hk => World.putObj_heap_other (by omega)⟩, by have := (Array.getElem?_eq_some_iff.1 h).1; omega, fun k t cs _ _ hb => by
    by_cases e : k = l
    · subst e
      unfold Blk at hb
      rw [h] at hb
      cases hb
      cases hc
    · exact (World.putObj_heap_other e).trans hb⟩
theorem KpF.of_below {B b0 : Nat} {X Y : World} (h : Below X.heap.size X Y) (hB : B ≤ X.heap.size) : KpF B b0 X Y := ⟨h.mono hB, hB, fun k t cs _ _ hb => hb.below h hb.lt⟩
/-- This one stands behind those; all of them are mapped. -/
def FrAt' (F : Fs) (m : M) (a most : Nat) (pre : List (Int × Bool)) (x : Int × Bool) : Prop := ∃ k, pre = itL F m a k ∧ x = itF F m a k ∧ k < most ∧ ∀ j, j < k → (itF F m a j).2 = true
/-- All were told. -/
def FrAll (F : Fs) (m : M) (a most : Nat) (ys : List (Int × Bool)) : Prop := ∃ k, ys = itL F m a k ∧ k ≤ most ∧ (k = most ∨ ∃ j, k = j + 1 ∧ (itF F m a j).2 = false)
section
variable {w0 : World} {fb lb cap : Nat} {F : Fs} {sb bt : Nat} {q : Nat → Option Nat} {m : M}
set_option maxRecDepth 100000 in
set_option maxHeartbeats 4000000 in
theorem from1_in (h : FS w0 fb lb cap F sb bt q m) (hok : SpOk F m) (l b0 a most n₀ : Nat) (n : Nat) (hn : 15 ≤ n) (J Jx : List (Int × Bool) → World → Prop) (ha : a < 4294967296) (hm : most ≤ 4096)
    (hJa : ∀ s W W', J s W → Below W.heap.size W W' → J s W')
    (hY : ∀ pre x W, n₀ ≤ W.heap.size → J pre W → FrAt' F m a most pre x → pre.length < 4097 → YieldAt Fence.wide (n - 1) Try.prog l (encB x) W fun e W' =>
      KpF w0.heap.size b0 W W' ∧ ((e = .returned (.bool true) ∧ J (pre ++ [x]) W') ∨ (e = .returned (.bool false) ∧ Jx (pre ++ [x]) W')))
    (W : World) (hBs : Blk W b0 24 #[.pointer (some ⟨sb, 0, none⟩)]) (hBa : Blk W (b0 + 1) 26 #[.int .u32 a]) (hBm : Blk W (b0 + 2) 3 #[.int .i64 most]) (hW : Below w0.heap.size w0 W) (hn₀ : n₀ ≤ W.heap.size) (h0 : J [] W) :
    CallsIn Fence.wide n Try.prog 40 #[.func (.yield l) #[] #[], .pointer (some ⟨b0 + 2, 0, none⟩), .pointer (some ⟨b0 + 1, 0, none⟩), .pointer (some ⟨b0, 0, none⟩)] W fun e W' => (∃ v, e = .returned v) ∧
      ((∃ ys, FrAll F m a most ys ∧ J ys W') ∨ (∃ pre, pre <+: itL F m a most ∧ Jx pre W')) := by
  have HH := Lib.hid h
  have HOK := Lib.hid hok
  clear h hok
  have h1n : 1 ≤ n := by omega
  refine callsIn_of_wp Try.func40 rfl trivial ?_ rfl
  simp only [Try.ntmps40, List.size_toArray, List.length_cons, List.length_nil, Nat.reduceAdd, Nat.reduceSub, Array.replicate_succ, Array.replicate_zero, List.push_toArray, List.append_toArray, List.nil_append, List.cons_append]
  have hcm := hBm.cell 0
  simp only [List.getElem?_toArray, List.getElem?_cons_zero] at hcm
  have hlm := hBm.lt
  gi_wp2
  gi_loopw [9] (fun c wr => ∃ k : Nat, c = .int .i64 (k : Int) ∧ k ≤ most ∧ Hid (J (itL F m a k) wr ∧ (∀ j, j < k → (itF F m a j).2 = true) ∧ Blk wr b0 24 #[.pointer (some ⟨sb, 0, none⟩)] ∧ Blk wr (b0 + 1) 26 #[.int .u32 a] ∧ Below w0.heap.size w0 wr ∧ n₀ ≤ wr.heap.size))
    (fun c _ => most - (intOf c).toNat)
  case atStart => exact ⟨0, rfl, Nat.zero_le _, Lib.hid ⟨h0, fun j hj => absurd hj (Nat.not_lt_zero _), hBs, hBa, hW, hn₀⟩⟩
  case round =>
    clear hBs hBa hW hn₀ h0
    obtain ⟨k, rfl, hk, HR⟩ := hrel
    have hca := HR.out.2.2.2.1.cell 0
    have hcs := HR.out.2.2.1.cell 0
    simp only [List.getElem?_toArray, List.getElem?_cons_zero] at hca hcs
    have hla := HR.out.2.2.2.1.lt
    have hls := HR.out.2.2.1.lt
    by_cases hkm : k < most
    case pos =>
      have hki : (k : Int) < (most : Int) := by omega
      have HAT := Lib.hid (show FrAt' F m a most (itL F m a k) (itF F m a k) from ⟨k, rfl, rfl, hkm, HR.out.2.1⟩)
      have HSU := Lib.hid (itL_succ F m a k)
      by_cases ha4 : a < 4096
      case pos =>
        have hai : (a : Int) < 4096 := by omega
        have hby := fun W (hb : Below wr.heap.size wr W) => spByte_any (HH.out.below (bl_step HR.out.2.2.2.2.1 hb)) HOK.out (a + k) (by omega)
        have hit : itF F m a k = ((byteP F m (a + k)).getD 0, (byteP F m (a + k)).isSome) := if_pos ha4
        rw [show (((a + k : Nat)) : Int) = (a : Int) + (k : Int) by omega] at hby
        have HIT := Lib.hid hit
        have HBY := Lib.hid hby
        clear hit hby
        generalize (byteP F m (a + k)).getD 0 = bv at *
        obtain ⟨isv, hisv⟩ : ∃ isv, isv = (byteP F m (a + k)).isSome := ⟨_, rfl⟩
        rw [← hisv] at HIT HBY
        clear hisv
        gi_wp2_with (fail)
        gi_region
        have HB1 := Lib.hid (Below.refl wr.heap.size wr).drew
        have hca1 := HR.out.2.2.2.1.drew.cell 0
        have hcs1 := HR.out.2.2.1.drew.cell 0
        simp only [List.getElem?_toArray, List.getElem?_cons_zero] at hca1 hcs1
        have hla1 := HR.out.2.2.2.1.drew.lt
        have hls1 := HR.out.2.2.1.drew.lt
        generalize wr.drew = W1 at *
        clear hca hcs hla hls
        cases isv
        all_goals
          gi_wp2_with (refine ⟨trivial, ?_⟩; gi_at_call 18; refine (callsIn_wide.2 (HBY.out _ HB1.out)).mono ?_; rintro e W2 ⟨rfl, hb2⟩; have HB2 := Lib.hid (bl_step HB1.out hb2); obtain ⟨fn, tmps, assign, body, hy, hR⟩ := hY _ (itF F m a k) W2 (Nat.le_trans HR.out.2.2.2.2.2 HB2.out.size) (hJa _ _ _ HR.out.1 HB2.out) HAT.out (by rw [itL_len]; omega); rw [HIT.out] at hy hR; simp only [encB] at hy; clear hb2)
          refine hR.mono ?_
          rintro e W3 ⟨hk3, (⟨rfl, hJ3⟩ | ⟨rfl, hJx3⟩)⟩
          · have HJ3 := Lib.hid hJ3
            have HK3 := Lib.hid hk3
            have HI2 := Lib.hid (show Blk W2 b0 24 #[.pointer (some ⟨sb, 0, none⟩)] ∧ Blk W2 (b0 + 1) 26 #[.int .u32 a] ∧ Below w0.heap.size w0 W2 ∧ n₀ ≤ W2.heap.size from
              ⟨HR.out.2.2.1.below HB2.out HR.out.2.2.1.lt, HR.out.2.2.2.1.below HB2.out HR.out.2.2.2.1.lt, bl_step HR.out.2.2.2.2.1 HB2.out, Nat.le_trans HR.out.2.2.2.2.2 HB2.out.size⟩)
            clear hJ3 hk3
            gi_wp2
            first
              | (go_roundw
                 case rel =>
                  refine ⟨k + 1, by go_num, by omega, Lib.hid ⟨by rw [HSU.out, HIT.out]; exact HJ3.out, fun j hj => ?_, HK3.out.2.2 _ _ _ (by omega) (by omega) HI2.out.1, HK3.out.2.2 _ _ _ (by omega) (by omega) HI2.out.2.1, HI2.out.2.2.1.trans HK3.out.1, by
                    have := HK3.out.1.size
                    have := HI2.out.2.2.2
                    omega⟩⟩
                  by_cases e : j = k
                  · rw [e, HIT.out]
                  · exact HR.out.2.1 j (by omega)
                 case measure => simp [intOf]; omega)
              | exact bodyPost_ret (results_none rfl _ _ _) rfl ⟨⟨_, rfl⟩, .inl ⟨_, ⟨k + 1, by rw [HSU.out, HIT.out], by omega, .inr ⟨k, rfl, by rw [HIT.out]⟩⟩, HJ3.out⟩⟩
          · have HJX := Lib.hid hJx3
            clear hJx3 hk3
            gi_wp2
            try rw [Exit.noGoto_ret]
            refine bodyPost_ret (results_none rfl _ _ _) rfl ⟨⟨_, rfl⟩, .inr ⟨_, ?_, HJX.out⟩⟩
            rw [← HIT.out, ← HSU.out]
            exact itL_prefix F m a most (k + 1) (by omega)
      case neg =>
        have hai : ¬ (a : Int) < 4096 := by omega
        have HIT := Lib.hid (show itF F m a k = (0, false) from if_neg ha4)
        gi_wp2_with (fail)
        gi_region
        have HB1 := Lib.hid (Below.refl wr.heap.size wr).drew
        obtain ⟨fn, tmps, assign, body, hy, hR⟩ := hY _ (itF F m a k) wr.drew (Nat.le_trans HR.out.2.2.2.2.2 HB1.out.size) (hJa _ _ _ HR.out.1 HB1.out) HAT.out (by rw [itL_len]; omega)
        rw [HIT.out] at hy hR
        simp only [encB] at hy
        rw [show decide ((a : Int) < 4096) = false from decide_eq_false (by omega)]
        generalize wr.drew = W1 at *
        gi_wp2
        refine hR.mono ?_
        rintro e W3 ⟨hk3, (⟨rfl, hJ3⟩ | ⟨rfl, hJx3⟩)⟩
        · have HJ3 := Lib.hid hJ3
          clear hJ3 hk3
          gi_wp2
          try rw [Exit.noGoto_ret]
          exact bodyPost_ret (results_none rfl _ _ _) rfl ⟨⟨_, rfl⟩, .inl ⟨_, ⟨k + 1, by rw [HSU.out, HIT.out], by omega, .inr ⟨k, rfl, by rw [HIT.out]⟩⟩, HJ3.out⟩⟩
        · have HJX := Lib.hid hJx3
          clear hJx3 hk3
          gi_wp2
          try rw [Exit.noGoto_ret]
          refine bodyPost_ret (results_none rfl _ _ _) rfl ⟨⟨_, rfl⟩, .inr ⟨_, ?_, HJX.out⟩⟩
          rw [← HIT.out, ← HSU.out]
          exact itL_prefix F m a most (k + 1) (by omega)
    case neg =>
      have hki : ¬ (k : Int) < (most : Int) := by omega
      have hkk : k = most := by omega
      have HJ := Lib.hid HR.out.1
      clear hkm
      gi_wp2
      try rw [Exit.noGoto_normal]
      go_end0
      exact ⟨⟨_, rfl⟩, .inl ⟨_, ⟨k, rfl, hk, .inl hkk⟩, HJ.out⟩⟩
theorem from_seq (h : FS w0 fb lb cap F sb bt q m) (hok : SpOk F m) (n : Nat) (hn : 15 ≤ n) (l b0 a most : Nat) (ha : a < 4294967296) (hm : most ≤ 4096) (w : World) (hBs : Blk w b0 24 #[.pointer (some ⟨sb, 0, none⟩)]) (hBa : Blk w (b0 + 1) 26 #[.int .u32 a]) (hBm : Blk w (b0 + 2) 3 #[.int .i64 most]) (hW : Below w0.heap.size w0 w) :
    SeqP Fence.wide n Try.prog 40 #[.pointer (some ⟨b0 + 2, 0, none⟩), .pointer (some ⟨b0 + 1, 0, none⟩), .pointer (some ⟨b0, 0, none⟩)] encB (fun _ _ => True) (FrAt' F m a most) (KpF w0.heap.size b0) (FrAll F m a most) (fun pre => pre <+: itL F m a most) 4097 l w := fun J Jx hJ hJx hY h0 =>
  (from1_in h hok l b0 a most w.heap.size n hn (J w.heap.size) (Jx w.heap.size) ha hm (fun s A B hs hb => (hJ _).below hs hb) (fun pre x W hW hj hat hl => hY w.heap.size pre x W (Nat.le_refl _) hW hj trivial hat hl) w hBs hBa hBm hW (Nat.le_refl _) (h0 _)).mono
    fun e W' ⟨h1, h2⟩ => ⟨h1, w.heap.size, Nat.le_refl _, h2⟩
theorem from_in (n : Nat) (a most : Int) (w : World) :
    CallsIn Fence.wide n Try.prog 22 #[.pointer (some ⟨sb, 0, none⟩), .int .u32 a, .int .i64 most] w fun e w' => e = .returned (.func (.func 40) #[] #[.pointer (some ⟨w.heap.size + 2, 0, none⟩), .pointer (some ⟨w.heap.size + 1, 0, none⟩), .pointer (some ⟨w.heap.size, 0, none⟩)]) ∧ w' = ((w.alloc (.cells #[.pointer (some ⟨sb, 0, none⟩)] 24)).alloc (.cells #[.int .u32 a] 26)).alloc (.cells #[.int .i64 most] 3) := by
  refine callsIn_of_wp Try.func22 rfl trivial ?_ rfl
  simp only [Try.ntmps22, List.size_toArray, List.length_cons, List.length_nil, Nat.reduceAdd, Nat.reduceSub, Array.replicate_succ, Array.replicate_zero, List.push_toArray, List.append_toArray, List.nil_append, List.cons_append]
  gi_wp2
  go_ret
  exact ⟨rfl, rfl⟩
end
end Go.Proofs.Ytlecfdchmcghlaa
