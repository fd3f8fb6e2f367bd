/-
  The pieces of an address and a length, told one by one. Condition: none.
-/
import Derived.Test.YtlecfdchmcghlaaSp6
import Derived.Test.YtlecfdchmcghlaaHeld
import Derived.Test.YtlecfdchmcghlaaSeqP
namespace Go.Proofs.Ytlecfdchmcghlaa
open Go.RowKit Go.Shelf
set_option linter.unusedVariables false
set_option linter.unusedSimpArgs false
attribute [local go_sem] Oper.semAt_some

structure Pc where
  page : Nat
  off : Nat
  from_ : Nat
  n : Nat
/-- Where piece k begins. -/
def frK (a n k : Nat) : Nat := if k = 0 then 0 else min n (64 * k - a % 64)
theorem frK_zero (a n : Nat) : frK a n 0 = 0 := rfl
theorem frK_step {a n k : Nat} (h : frK a n k < n) : frK a n (k + 1) = frK a n k + min (n - frK a n k) (64 - (a + frK a n k) % 64) := by
  unfold frK at *
  rw [if_neg (by omega)]
  split at h <;> split <;> omega
theorem frK_le (a n k : Nat) : frK a n k ≤ n := by unfold frK; split <;> omega
theorem frK_page {a n k : Nat} (h : frK a n k < n) : (a + frK a n k) / 64 = a / 64 + k := by
  unfold frK at *
  split at h <;> split <;> omega
theorem frK_off {a n k : Nat} (hk : k ≠ 0) (h : frK a n k < n) : (a + frK a n k) % 64 = 0 := by
  unfold frK at *
  rw [if_neg hk] at *
  omega
def pcK (a n k : Nat) : Pc := ⟨(a + frK a n k) / 64, (a + frK a n k) % 64, frK a n k, min (n - frK a n k) (64 - (a + frK a n k) % 64)⟩
def pcN (a n k : Nat) : List Pc := (List.range k).map (pcK a n)
def pcJ (a n : Nat) : Nat := if n = 0 then 0 else (a % 64 + n + 63) / 64
theorem pcJ_iff (a n k : Nat) : frK a n k < n ↔ k < pcJ a n := by
  unfold frK pcJ
  split <;> split <;> omega
def pcs (a n : Nat) : List Pc := pcN a n (pcJ a n)
theorem pcN_succ (a n k : Nat) : pcN a n (k + 1) = pcN a n k ++ [pcK a n k] := by
  unfold pcN
  rw [List.range_succ, List.map_append]; rfl
theorem pcN_len (a n k : Nat) : (pcN a n k).length = k := by
  unfold pcN
  rw [List.length_map, List.length_range]
theorem pcN_prefix (a n : Nat) : ∀ j k, k ≤ j → pcN a n k <+: pcN a n j
  | 0, k, h => by
    have : k = 0 := by omega
    subst this
    exact List.prefix_rfl
  | j + 1, k, h => by
    by_cases hk : k = j + 1
    · subst hk; exact List.prefix_rfl
    · rw [pcN_succ]
      exact (pcN_prefix a n j k (by omega)).trans (List.prefix_append _ _)
theorem pcJ_le {a n : Nat} (hn : n ≤ 4096) : pcJ a n ≤ 65 := by
  unfold pcJ
  split <;> omega
def encPc (x : Pc) : Array Value := #[.agg #[.int .i64 x.page, .int .i64 x.off, .int .i64 x.from_, .int .i64 x.n]]
/-- What a round keeps: pieces and numbers from block C on. -/
def KpT (t : TypeId) : Prop := t = 88 ∨ t = 3 ∨ t = 26
def KpP (C : Nat) (A B : World) : Prop := A.heap.size ≤ B.heap.size ∧ ∀ (k : Nat) (t : TypeId) (cs : Array Value), C ≤ k → KpT t → Blk A k t cs → Blk B k t cs
theorem kpP_t {C : Nat} {A B D : World} (h : KpP C A B) (k : KpP C B D) : KpP C A D := ⟨Nat.le_trans h.1 k.1, fun i t cs hi ht ho => k.2 i t cs hi ht (h.2 i t cs hi ht ho)⟩
theorem kpP_b {C : Nat} {w : World} (W : World) (l : Nat) (o o' : Obj) (hl : w.heap.size ≤ l) (h : W.heap[l]? = some o) (hc : o.isCells = false) (_ : o.isWalk = false) : KpP C W (W.putObj l o') :=
  ⟨by simp [World.putObj], fun k t cs hk ht ho2 => by
    by_cases hkl : k = l
    · subst hkl
      unfold Blk at ho2
      rw [h] at ho2
      cases ho2
      cases hc
    · exact (World.putObj_heap_other hkl).trans ho2⟩
theorem KpP.of_below {C : Nat} {A B : World} (h : Below A.heap.size A B) : KpP C A B := ⟨h.size, fun k t cs _ _ ho => ho.below h ho.lt⟩
theorem KpP.of_but {C : Nat} {S : Nat → Prop} {A B : World} (h : But S A B) (hS : ∀ k, S k → k < C) : KpP C A B :=
  ⟨h.size, fun k t cs hk _ ho => ho.but h (fun hs => by have := hS k hs; omega)⟩
theorem KpP.blk {C : Nat} {A B : World} (h : KpP C A B) {b : Nat} {t : TypeId} {cs : Array Value} (hb : Blk A b t cs) (hC : C ≤ b) (ht : KpT t) : Blk B b t cs := h.2 b t cs hC ht hb

/-- This piece stands behind those. -/
def PcAt (a m : Nat) (pre : List Pc) (x : Pc) : Prop := ∃ k, pre = pcN a m k ∧ x = pcK a m k ∧ frK a m k < m
set_option maxRecDepth 100000 in
set_option maxHeartbeats 4000000 in
theorem pieces1_in (l C Bn Ba a m n₀ : Nat) (n : Nat) (hn : 3 ≤ n) (J Jx : List Pc → World → Prop) (ha : a < 4294967296) (hm : m ≤ 4096)
    (hJa : ∀ s W W', J s W → Below W.heap.size W W' → J s W')
    (hY : ∀ pre x W, n₀ ≤ W.heap.size → J pre W → PcAt a m pre x → pre.length < 66 → YieldAt Fence.wide (n - 1) Try.prog l (encPc x) W fun e W' =>
      KpP C W W' ∧ ((e = .returned (.bool true) ∧ J (pre ++ [x]) W') ∨ (e = .returned (.bool false) ∧ Jx (pre ++ [x]) W')))
    (W : World) (hBn : Blk W Bn 3 #[.int .i64 m]) (hBa : Blk W Ba 26 #[.int .u32 a]) (hCn : C ≤ Bn) (hCa : C ≤ Ba) (hn₀ : n₀ ≤ W.heap.size) (h0 : J [] W) :
    CallsIn Fence.wide n Try.prog 57 #[.func (.yield l) #[] #[], .pointer (some ⟨Bn, 0, none⟩), .pointer (some ⟨Ba, 0, none⟩)] W fun e W' => (∃ v, e = .returned v) ∧
      ((∃ ys, ys = pcs a m ∧ J ys W') ∨ (∃ pre, pre <+: pcs a m ∧ Jx pre W')) := by
  refine callsIn_of_wp Try.func57 rfl trivial ?_ rfl
  simp only [Try.ntmps57, List.size_toArray, List.length_cons, List.length_nil, Nat.reduceAdd, Nat.reduceSub, Array.replicate_succ, Array.replicate_zero, List.push_toArray, List.append_toArray, List.nil_append, List.cons_append]
  gi_wp2
  gi_loopw [4] (fun c wr => ∃ k : Nat, k ≤ pcJ a m ∧ c = .int .i64 (frK a m k : Nat) ∧ J (pcN a m k) wr ∧ Blk wr Bn 3 #[.int .i64 m] ∧ Blk wr Ba 26 #[.int .u32 a] ∧ n₀ ≤ wr.heap.size)
    (fun c _ => m - (intOf c).toNat)
  case atStart => exact ⟨0, Nat.zero_le _, rfl, h0, hBn, hBa, hn₀⟩
  case round =>
    obtain ⟨k, hk, rfl, hJ, hBnr, hBar, hsz⟩ := hrel
    clear hBn hBa h0 hn₀
    have hle := frK_le a m k
    have hcn := hBnr.cell 0
    have hca := hBar.cell 0
    simp only [List.getElem?_toArray, List.getElem?_cons_zero] at hcn hca
    have hln := hBnr.lt
    have hla := hBar.lt
    by_cases hlt : frK a m k < m
    · have HS := Lib.hid (frK_step hlt)
      have HKJ := Lib.hid ((pcJ_iff a m k).1 hlt)
      have HPC := Lib.hid (pcN_succ a m k)
      have HAT := Lib.hid (show PcAt a m (pcN a m k) (pcK a m k) from ⟨k, rfl, rfl, hlt⟩)
      have hx : pcK a m k = ⟨(a + frK a m k) / 64, (a + frK a m k) % 64, frK a m k, min (m - frK a m k) (64 - (a + frK a m k) % 64)⟩ := rfl
      generalize pcK a m k = x at *
      subst hx
      generalize frK a m k = f at *
      have hki : (f : Int) < (m : Int) := by omega
      have e1 : (((a + f) / 64 : Nat) : Int) = ((a : Int) + (f : Int)) / 64 := by omega
      have e2 : (((a + f) % 64 : Nat) : Int) = ((a : Int) + (f : Int)) % 64 := by omega
      have e3 : ((min (m - f) (64 - (a + f) % 64) : Nat) : Int) = min ((m : Int) - (f : Int)) (64 - ((a : Int) + (f : Int)) % 64) := by omega
      have hb1 := Blk.new wr 88 #[.int .i64 (((a : Int) + (f : Int)) / 64), .int .i64 (((a : Int) + (f : Int)) % 64), .int .i64 (f : Int), .int .i64 (min ((m : Int) - (f : Int)) (64 - ((a : Int) + (f : Int)) % 64))]
      have hbl := bl_new (Below.refl wr.heap.size wr) (.cells #[.int .i64 (((a : Int) + (f : Int)) / 64), .int .i64 (((a : Int) + (f : Int)) % 64), .int .i64 (f : Int), .int .i64 (min ((m : Int) - (f : Int)) (64 - ((a : Int) + (f : Int)) % 64))] 88)
      obtain ⟨fn, tmps, assign, body, hy, hR⟩ := hY _ ⟨(a + f) / 64, (a + f) % 64, f, min (m - f) (64 - (a + f) % 64)⟩ _ (Nat.le_trans hsz hbl.size) (hJa _ _ _ hJ hbl) HAT.out (by rw [pcN_len]; have := HKJ.out; have := pcJ_le (a := a) hm; omega)
      simp only [encPc] at hy
      rw [e1, e2, e3] at hy
      have HB1 := Lib.hid hb1
      have HBL := Lib.hid hbl
      have HNE := Lib.hid hBnr
      have HAE := Lib.hid hBar
      have HE3 := Lib.hid e3
      clear hb1 hbl hBnr hBar e1 e2 e3
      gi_wp2
      refine ⟨fun _ => by omega, hR.mono ?_⟩
      rintro e W3 ⟨hk3, (⟨rfl, hJ3⟩ | ⟨rfl, hJx3⟩)⟩
      · have HN3 := hk3.blk (HNE.out.below HBL.out HNE.out.lt) hCn (.inr (.inl rfl))
        have HA3 := hk3.blk (HAE.out.below HBL.out HAE.out.lt) hCa (.inr (.inr rfl))
        have c3 := (hk3.blk HB1.out (Nat.le_trans hCn (Nat.le_of_lt HNE.out.lt)) (.inl rfl)).cell 3
        simp only [List.getElem?_toArray, List.getElem?_cons_zero, List.getElem?_cons_succ] at c3
        have hl3 : wr.heap.size < W3.heap.size := by have := hk3.1; simp at this; omega
        clear hk3
        gi_wp2
        go_roundw
        case rel =>
          refine ⟨k + 1, HKJ.out, ?_, by rw [HPC.out]; exact hJ3, HN3, HA3, by omega⟩
          rw [HS.out, ← HE3.out]
          rfl
        case measure => have := HE3.out; simp [intOf]; omega
      · gi_wp2
        try rw [Exit.noGoto_ret]
        refine bodyPost_ret (results_none rfl _ _ _) rfl ?_
        refine ⟨⟨_, rfl⟩, .inr ⟨_, ?_, hJx3⟩⟩
        rw [← HPC.out]
        exact pcN_prefix a m _ (k + 1) HKJ.out
    · have hkn : k = pcJ a m := by
        have := (pcJ_iff a m k).2
        omega
      have he : frK a m k = m := by omega
      have HJ := Lib.hid (show J (pcs a m) wr from by unfold pcs; rw [← hkn]; exact hJ)
      rw [he]
      have hki : ¬ (m : Int) < (m : Int) := by omega
      clear hkn he hJ hlt hle
      gi_wp2
      try rw [Exit.noGoto_normal]
      go_end0
      exact ⟨⟨_, rfl⟩, .inl HJ.out⟩
theorem pieces_seq (n : Nat) (hn : 3 ≤ n) (l C Bn Ba a m : Nat) (ha : a < 4294967296) (hm : m ≤ 4096) (w : World) (hBn : Blk w Bn 3 #[.int .i64 m]) (hBa : Blk w Ba 26 #[.int .u32 a]) (hCn : C ≤ Bn) (hCa : C ≤ Ba) :
    SeqP Fence.wide n Try.prog 57 #[.pointer (some ⟨Bn, 0, none⟩), .pointer (some ⟨Ba, 0, none⟩)] encPc (fun _ _ => True) (PcAt a m) (KpP C) (fun ys => ys = pcs a m) (fun pre => pre <+: pcs a m) 66 l w := fun J Jx hJ hJx hY h0 =>
  (pieces1_in l C Bn Ba a m w.heap.size n hn (J w.heap.size) (Jx w.heap.size) ha hm (fun s A B hs hb => (hJ _).below hs hb) (fun pre x W hW hj hat hl => hY w.heap.size pre x W (Nat.le_refl _) hW hj trivial hat hl) w hBn hBa hCn hCa (Nat.le_refl _) (h0 _)).mono
    fun e W' ⟨h1, h2⟩ => ⟨h1, w.heap.size, Nat.le_refl _, h2⟩
theorem pieces_in (n : Nat) (a m : Int) (w : World) :
    CallsIn Fence.wide n Try.prog 36 #[.int .u32 a, .int .i64 m] w fun e w' => e = .returned (.func (.func 57) #[] #[.pointer (some ⟨w.heap.size + 1, 0, none⟩), .pointer (some ⟨w.heap.size, 0, none⟩)]) ∧ w' = (w.alloc (.cells #[.int .u32 a] 26)).alloc (.cells #[.int .i64 m] 3) := by
  refine callsIn_of_wp Try.func36 rfl trivial ?_ rfl
  simp only [Try.ntmps36, List.size_toArray, List.length_cons, List.length_nil, Nat.reduceAdd, Nat.reduceSub, Array.replicate_succ, Array.replicate_zero, List.push_toArray, List.append_toArray, List.nil_append, List.cons_append]
  gi_wp2
  go_ret
  exact ⟨rfl, rfl⟩
end Go.Proofs.Ytlecfdchmcghlaa
