/-
  The frames that are used, told one by one. Condition: the frames lie in blocks of their own.
-/
import Derived.Deep.WholeRow
import Derived.RangeFuncSeq
import Derived.RangeFuncKeeps
import Derived.Test.YtlecfdchmcghlaaFr5
namespace Go.Proofs.Ytlecfdchmcghlaa
open Go.RowKit Go.Lib
set_option linter.unusedVariables false
set_option linter.unusedSimpArgs false
attribute [local go_sem] Oper.semAt_some

theorem wpListIn_load_midF {Fe : Fence} {n : Nat} {P : Program} {ops : Array Oper} {rest : List Oper} {o : Oper} {a : Act} {w : World} {Q : Exit → Act → World → Prop} (hgd : o.guard = none) (ty : TypeId) (x : Operand) (ho : o.op = .load ty x)
    (b off : Nat) (hx : a.eval x = .pointer (some ⟨b, off, none⟩)) (cs : List Value) (d : TypeDesc) (hc : w.rangeAt b off cs)
    (hu : P.underlying ty = some d) (hd : d.isRow = true) (hi : (P.info? ty).map (·.size) = some cs.length)
    (h : wpListIn Fe n P ops Q rest (a.put o.dst (.agg cs.toArray)) w) : wpListIn Fe n P ops Q (o :: rest) a w := by
  refine wpListIn_plain hgd fun K hK' => ?_
  unfold Oper.wpIn
  refine ⟨?_, ?_⟩
  · simp [Oper.about, ho, Sem.run_pure]
  · rw [Oper.semAt_plain Fe _ _ (by rw [ho]; intro c hc'; cases hc')]
    simp only [execOp, ho, hx, Instr.loadAt, Instr.sureAddr, Sem.run_bind, Sem.run_pure, Result.andThen_ok, run_loadVar_mid w b off ty cs d hc hu hd hi]
    exact hK' _ _ h
/-- The used ones among the first k. -/
def usedN (F : Fs) : Nat → List Nat
  | 0 => []
  | k + 1 => usedN F k ++ (if F.r k = 0 then [] else [k])
def encU (k : Nat) : Array Value := #[.int .i64 k]
theorem usedN_len (F : Fs) : ∀ k, (usedN F k).length ≤ k
  | 0 => Nat.le_refl _
  | k + 1 => by
    have := usedN_len F k
    rw [usedN, List.length_append]
    split
    · simp only [List.length_nil]; omega
    · simp only [List.length_cons, List.length_nil]; omega
theorem usedN_prefix (F : Fs) : ∀ j k, k ≤ j → usedN F k <+: usedN F j
  | 0, k, h => by
    have : k = 0 := by omega
    subst this
    exact List.prefix_rfl
  | j + 1, k, h => by
    by_cases hk : k = j + 1
    · subst hk; exact List.prefix_rfl
    · exact (usedN_prefix F j k (by omega)).trans (List.prefix_append _ _)
/-- Nothing below n₀ is turned, nor the box. -/
theorem FrAt.belowN {W W' : World} {fb lb cap n₀ : Nat} {F : Fs} (h : FrAt W fb lb cap F) (hb : Below n₀ W W') (h1 : fb < n₀) (h2 : lb < n₀) : FrAt W' fb lb cap F := by
  obtain ⟨m, hm⟩ := h.l
  exact ⟨h.p.below hb h1, ⟨m, hm.below hb h2⟩, h.ne, h.cap, h.ok⟩

theorem frow_one (F : Fs) (k : Nat) : ∀ v ∈ frow F k, v.oneCell' = true := fun v hv => by
  unfold frow at hv
  rw [List.mem_append, List.mem_map] at hv
  rcases hv with ⟨x, _, rfl⟩ | hv
  · rfl
  · rw [List.mem_singleton] at hv
    subst hv; rfl
theorem run_storeCells_frow {F : Fs} (h : F.Ok) (k : Nat) (w : World) : (storeCells ⟨w.heap.size, 0, none⟩ (frow F k)).run Try.prog (w.alloc (.cells zrow.toArray 99)) = .ok () (w.alloc (.cells (frow F k).toArray 99)) := by
  have hl : (frow F k).toArray.size = 65 := by rw [List.size_toArray]; exact frow_len h k
  exact run_storeCells_new (P := Try.prog) w 99 zrow.toArray (frow F k).toArray (by rw [hl]; kernel_rfl) (by rw [hl]; rfl) (all_oneCell_toArray (frow_one F k))
set_option maxRecDepth 100000 in
set_option maxHeartbeats 4000000 in
theorem used1_in (l Bn n₀ fb lb cap : Nat) (F : Fs) (n : Nat) (hn : 3 ≤ n) (J Jx : List Nat → World → Prop)
    (hJa : ∀ s W W', J s W → Below W.heap.size W W' → J s W')
    (hY : ∀ pre x W, J pre W → pre.length < 256 → YieldAt Fence.wide (n - 1) Try.prog l (encU x) W fun e W' =>
      (e = .returned (.bool true) ∧ J (pre ++ [x]) W' ∧ KpB n₀ Bn W W') ∨ (e = .returned (.bool false) ∧ Jx (pre ++ [x]) W'))
    (W : World) (hBn : Blk W Bn 32 #[.pointer (some ⟨fb, 0, none⟩)]) (hT : FrAt W fb lb cap F) (h1 : fb < n₀) (h2 : lb < n₀) (hn₀ : n₀ ≤ W.heap.size) (h0 : J [] W) :
    CallsIn Fence.wide n Try.prog 69 #[.func (.yield l) #[] #[], .pointer (some ⟨Bn, 0, none⟩)] W fun e W' => (∃ v, e = .returned v) ∧
      ((∃ ys, ys = usedN F F.n ∧ J ys W') ∨ (∃ pre, pre <+: usedN F F.n ∧ Jx pre W')) := by
  have hpos := hT.ok.pos
  have hcB := hBn.cell 0
  simp only [List.getElem?_toArray, List.getElem?_cons_zero] at hcB
  have c0 := hT.slice
  have hlt := hT.p.lt
  refine callsIn_of_wp Try.func69 rfl trivial ?_ rfl
  simp only [Try.ntmps69, List.size_toArray, List.length_cons, List.length_nil, Nat.reduceAdd, Nat.reduceSub, Array.replicate_succ, Array.replicate_zero, List.push_toArray, List.append_toArray, List.nil_append, List.cons_append]
  gi_wp2
  refine wpIn_scope_straight ?_
  gi_wp2
  refine wpIn_label ?_
  gi_wp2
  gi_loopw [12] (fun c wr => ∃ k : Nat, k ≤ F.n ∧ c = .int .i64 k ∧ J (usedN F k) wr ∧ FrAt wr fb lb cap F ∧ Blk wr Bn 32 #[.pointer (some ⟨fb, 0, none⟩)] ∧ n₀ ≤ wr.heap.size)
    (fun c _ => F.n - (intOf c).toNat)
  case atStart => exact ⟨0, by omega, rfl, h0, hT, hBn, hn₀⟩
  case round =>
    obtain ⟨k, hk, rfl, hJ, hTr, hBr, hsz⟩ := hrel
    clear hcB c0 hlt hT hBn hn₀ h0
    by_cases hlt : k < F.n
    · have hki : (k : Int) < (F.n : Int) := by omega
      have HT := Lib.hid hTr
      have hl2 := hTr.lt.2
      have HF := Lib.hid (bl_new (Below.refl wr.heap.size wr) (.cells (frow F k).toArray 99))
      have hc := ((Blk.new wr 99 (frow F k).toArray).cell 64).trans (show (frow F k).toArray[64]? = some (.int .i64 (F.r k)) from by rw [List.getElem?_toArray]; exact frow_refs hTr.ok k)
      have hcl := (Blk.new wr 99 (frow F k).toArray).lt
      have hz := zeroF wr
      have hst := run_storeCells_frow hTr.ok k wr
      have hlen := frow_len hTr.ok k
      clear hTr
      by_cases hr : F.r k = 0
      · rw [hr] at hc
        have HL := Lib.hid (show usedN F (k + 1) = usedN F k from by rw [usedN, if_pos hr, List.append_nil])
        gi_wp2_with (refine wpListIn_load_midF rfl _ _ rfl lb (k * 65) rfl (frow F k) _ (rangeAt_frow HT.out hlt) Try.underlying99 rfl (by rw [frow_len HT.out.ok]; kernel_rfl) ?_)
        go_roundw
        case rel =>
          refine ⟨k + 1, by omega, by go_num, ?_, HT.out.below HF.out, hBr.below HF.out hBr.lt, by have := HF.out.size; omega⟩
          rw [HL.out]
          exact hJa _ _ _ hJ HF.out
        case measure => simp [intOf]; omega
      · have hrn : ((F.r k : Int) == 0) = false := by simpa using (show (F.r k : Int) ≠ 0 by omega)
        have HL := Lib.hid (show usedN F (k + 1) = usedN F k ++ [k] from by rw [usedN, if_neg hr])
        have hul := usedN_len F k
        obtain ⟨fn, tmps, assign, body, hy, hR⟩ := hY _ k _ (hJa _ _ _ hJ HF.out) (by omega)
        simp only [encU] at hy
        gi_wp2_with (refine wpListIn_load_midF rfl _ _ rfl lb (k * 65) rfl (frow F k) _ (rangeAt_frow HT.out hlt) Try.underlying99 rfl (by rw [frow_len HT.out.ok]; kernel_rfl) ?_)
        refine ⟨fun _ => by omega, hR.mono ?_⟩
        rintro e W3 (⟨rfl, hJ3, hk3⟩ | ⟨rfl, hJx3⟩)
        · gi_wp2
          go_roundw
          case rel =>
            have hb4 := (HF.out.mono hsz).trans hk3.1
            have hB4 : Blk W3 Bn 32 #[.pointer (some ⟨fb, 0, none⟩)] := hk3.2.trans (hBr.below HF.out hBr.lt)
            refine ⟨k + 1, by omega, by go_num, ?_, HT.out.belowN hb4 h1 h2, hB4, by have := hb4.size; omega⟩
            rw [HL.out]
            exact hJ3
          case measure => simp [intOf]; omega
        · gi_wp2
          try rw [Exit.noGoto_ret]
          refine bodyPost_ret (results_none rfl _ _ _) rfl ?_
          refine ⟨⟨_, rfl⟩, .inr ⟨_, ?_, hJx3⟩⟩
          rw [← HL.out]
          exact usedN_prefix F F.n (k + 1) (by omega)
    · have hkn : k = F.n := by omega
      subst hkn
      have hki : ¬ (F.n : Int) < (F.n : Int) := by omega
      gi_wp2
      try rw [Exit.noGoto_normal]
      go_end0
      exact ⟨⟨_, rfl⟩, .inl ⟨_, rfl, hJ⟩⟩
end Go.Proofs.Ytlecfdchmcghlaa
