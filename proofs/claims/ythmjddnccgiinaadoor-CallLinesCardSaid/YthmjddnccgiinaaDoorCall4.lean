/-
  Walks over package call: the arguments' iterator. Condition: the tables lie as the program's text lays them.
-/
import Derived.Test.YthmjddnccgiinaaDoorIter
import Derived.Test.YthmjddnccgiinaaDoorCall3
namespace Go.Proofs.YthmjddnccgiinaaDoor
open Go.RowKit Go.Shelf
set_option linter.unusedVariables false
set_option linter.unusedSimpArgs false
attribute [local go_sem] Oper.semAt_some

/-- An argument: its place, and what it is. -/
abbrev Ag := Fin 3 × Int
def encA (x : Ag) : Array Value := #[.int .i64 (x.1.val : Int), .int .u32 x.2]
/-- The arguments that a call has. -/
def agAll (a b c : Int) : List Ag := [(0, a), (1, b), (2, c)]
def agN (N : Int) : Nat := (kM (kR N)).toNat
def agL (N a b c : Int) : List Ag := (agAll a b c).take (agN N)
theorem kM_range {k : Nat} (hk : k < 23) : -1 ≤ kM k ∧ kM k ≤ 3 := by
  rcases lt23 hk with rfl | rfl | rfl | rfl | rfl | rfl | rfl | rfl | rfl | rfl | rfl | rfl | rfl | rfl | rfl | rfl | rfl | rfl | rfl | rfl | rfl | rfl | rfl <;> decide
theorem agN_le (N : Int) : agN N ≤ 3 := by have := (kM_range (kR_lt N)).2; unfold agN; omega
theorem agAll_at (a b c : Int) {k : Nat} (hk : k < 3) : (agAll a b c)[k]? = some (⟨k, hk⟩, [a, b, c].getD k 0) := by
  have : k = 0 ∨ k = 1 ∨ k = 2 := by omega
  rcases this with rfl | rfl | rfl <;> rfl
theorem index_args (a b c : Int) {k : Nat} (hk : k < 3) (w : World) : (Instr.index 25 (.agg #[.int .u32 a, .int .u32 b, .int .u32 c]) (.int .i64 k)).run Tryd.prog w = .ok (.int .u32 ([a, b, c].getD k 0)) w := by
  rcases (show k = 0 ∨ k = 1 ∨ k = 2 by omega) with rfl | rfl | rfl <;> kernel_rfl
theorem ccells {w : World} {g : Nat} {t : TypeId} {a b c d : Value} (h : Blk w g t #[a, b, c, d]) : w.cell? ⟨g, 0, none⟩ = some a ∧ w.cell? ⟨g, 1, none⟩ = some b ∧ w.cell? ⟨g, 2, none⟩ = some c ∧ w.cell? ⟨g, 3, none⟩ = some d ∧ g < w.heap.size :=
  ⟨h.cell 0, h.cell 1, h.cell 2, h.cell 3, h.lt⟩

set_option maxRecDepth 100000 in
set_option maxHeartbeats 2000000 in
theorem args1_in (l Bn n₀ : Nat) (N a b c : Int) (n : Nat) (hn : 6 ≤ n) (J Jx : List Ag → World → Prop)
    (hJa : ∀ s W W', J s W → Below W.heap.size W W' → J s W')
    (hY : ∀ pre x W, x ∈ agAll a b c → J pre W → pre.length < 3 → YieldAt Fence.wide (n - 1) Tryd.prog l (encA x) W fun e W' =>
      (e = .returned (.bool true) ∧ J (pre ++ [x]) W' ∧ KpB n₀ Bn W W') ∨ (e = .returned (.bool false) ∧ Jx (pre ++ [x]) W'))
    (W : World) (hBn : Blk W Bn 27 #[.int .i64 N, .int .u32 a, .int .u32 b, .int .u32 c]) (hL : Laid W) (hg : 0 < n₀) (hn₀ : n₀ ≤ W.heap.size) (h0 : J [] W) :
    CallsIn Fence.wide n Tryd.prog 47 #[.func (.yield l) #[] #[], .pointer (some ⟨Bn, 0, none⟩)] W fun e W' => (∃ v, e = .returned v) ∧
      ((∃ ys, ys = agL N a b c ∧ J ys W') ∨ (∃ pre, pre <+: agL N a b c ∧ Jx pre W')) := by
  have hkeep : ∀ A B : World, Laid A → Below n₀ A B → Laid B := fun A B h hb => h.belowB hb hg
  have HI := Lib.hid (fun (k : Nat) (hk : k < 3) (w : World) => index_args a b c hk w)
  have HML := Lib.hid (fun (W1 : World) (h1 : Laid W1) => many_any h1 N)
  have hmle := agN_le N
  have hkr := kM_range (kR_lt N)
  have hml : agN N = (kM (kR N)).toNat := rfl
  have HAT := Lib.hid (fun (k : Nat) (hk : k < 3) => agAll_at a b c hk)
  have hLn : agL N a b c = (agAll a b c).take (agN N) := rfl
  generalize agAll a b c = al at *
  generalize agN N = m at *
  generalize hkm : kM (kR N) = km at *
  have HLN := Lib.hid hLn
  have HMM := Lib.hid hml
  obtain ⟨cc0, cc1, cc2, cc3, cclt⟩ := ccells hBn
  clear hLn hkm hml
  refine callsIn_of_wp Tryd.func47 rfl trivial ?_ rfl
  simp only [Tryd.ntmps47, List.size_toArray, List.length_cons, List.length_nil, Nat.reduceAdd, Nat.reduceSub, Array.replicate_succ, Array.replicate_zero, List.push_toArray, List.append_toArray, List.nil_append, List.cons_append]
  gi_wp2
  refine wpIn_scope_straight ?_
  gi_wp2
  refine wpIn_label ?_
  gi_wp2
  gi_loopw [7] (fun i wr => ∃ k : Nat, k ≤ 3 ∧ k ≤ m ∧ i = .int .i64 (k : Int) ∧ J (al.take k) wr ∧ Laid wr ∧ Blk wr Bn 27 #[.int .i64 N, .int .u32 a, .int .u32 b, .int .u32 c] ∧ n₀ ≤ wr.heap.size)
    (fun i _ => 3 - (intOf i).toNat)
  case atStart => exact ⟨0, by omega, by omega, rfl, h0, hL, hBn, hn₀⟩
  case round =>
    obtain ⟨k, hk, hkm, rfl, hJ, hLr, hBr, hsz⟩ := hrel
    obtain ⟨b0, b1, b2, b3, blt⟩ := ccells hBr
    by_cases hk3 : k < 3
    · have hkb : (k : Int) < 3 := by omega
      have hix := fun w => HI.out k hk3 w
      have hat := HAT.out k hk3
      generalize [a, b, c].getD k 0 = v at *
      have HAT1 := Lib.hid hat
      have HMEM := Lib.hid (List.mem_of_getElem? hat)
      by_cases hkl : k < m
      · have hge : (k : Int) < km := by have := HMM.out; omega
        have HMC := Lib.hid (HML.out wr hLr)
        have htk : al.take (k + 1) = al.take k ++ [(⟨k, hk3⟩, v)] := by rw [List.take_add_one, hat]; rfl
        have HTK := Lib.hid htk
        have hlen : (al.take k).length < 3 := by have := List.length_take_le k al; omega
        have HLR := Lib.hid hLr
        have HBR := Lib.hid hBr
        clear hat htk hL hBn hn₀ h0 cc0 cc1 cc2 cc3 hLr hBr
        gi_wp2_with (refine ⟨trivial, fun _ => by omega, ?_⟩; gi_at_call 13; refine (callsIn_wide.2 HMC.out).mono ?_; rintro e w1 ⟨rfl, hb1⟩; obtain ⟨fn, tmps, assign, body, hy, hR⟩ := hY _ (⟨k, hk3⟩, v) _ HMEM.out (hJa _ _ _ hJ hb1) hlen; simp only [encA] at hy)
        refine ⟨fun _ => by omega, hR.mono ?_⟩
        rintro e W3 (⟨rfl, hJ3, hk3'⟩ | ⟨rfl, hJx3⟩)
        · gi_wp2
          go_roundw
          case rel =>
            have hb4 := (hb1.mono hsz).trans hk3'.1
            have hB4 := hk3'.2.trans (HBR.out.below hb1 HBR.out.lt)
            exact ⟨k + 1, by omega, by omega, by go_num, by rw [HTK.out]; exact hJ3, hkeep _ _ HLR.out hb4, hB4, Nat.le_trans hsz hb4.size⟩
          case measure => simp [intOf]; omega
        · gi_wp2
          rw [Exit.noGoto_normal]
          go_end0
          refine ⟨⟨_, rfl⟩, .inr ⟨_, ?_, hJx3⟩⟩
          rw [← HTK.out, HLN.out]
          exact (List.take_prefix_take_left (by omega))
      · obtain rfl : m = k := by omega
        have hge : km ≤ (m : Int) := by have := HMM.out; omega
        have hge2 : ¬ (m : Int) < km := by omega
        have HMC := Lib.hid (HML.out wr hLr)
        clear hat hL hBn hn₀ h0 cc0 cc1 cc2 cc3 hLr hBr
        gi_wp2_with (refine ⟨trivial, fun _ => by omega, ?_⟩; gi_at_call 13; refine (callsIn_wide.2 HMC.out).mono ?_; rintro e w1 ⟨rfl, hb1⟩)
        all_goals
          refine ⟨fun f h => absurd h (by simp), ?_⟩
          gi_wp2
          rw [Exit.noGoto_normal]
          go_end0
          exact ⟨⟨_, rfl⟩, .inl ⟨_, HLN.out.symm, hJa _ _ _ hJ hb1⟩⟩
    · have hk3' : k = 3 := by omega
      have hm3 : m = 3 := by omega
      subst hk3'
      have HJ := Lib.hid (show J (agL N a b c) wr by rw [HLN.out, hm3]; exact hJ)
      clear hJ hm3 hLr hBr
      gi_wp2
      rw [Exit.noGoto_normal]
      go_end0
      exact ⟨⟨_, rfl⟩, .inl ⟨_, rfl, HJ.out⟩⟩
end Go.Proofs.YthmjddnccgiinaaDoor
