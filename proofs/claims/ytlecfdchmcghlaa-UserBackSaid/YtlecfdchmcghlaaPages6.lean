/-
  Walks over package pages: the iterator over all entries.
-/
import Derived.Test.YtlecfdchmcghlaaIter
import Derived.Test.YtlecfdchmcghlaaPages5
namespace Go.Proofs.Ytlecfdchmcghlaa
open Go.RowKit Go.Shelf
set_option linter.unusedVariables false
attribute [local go_sem] Oper.semAt_some

/-- The pages from p on that have an entry, k of them looked at. -/
def listN (m : M) (p : Nat) : Nat → List (Nat × E)
  | 0 => []
  | k + 1 => (match m p with | none => [] | some x => [(p, x)]) ++ listN m (p + 1) k
/-- All entries, pages rising. -/
def list (m : M) : List (Nat × E) := listN m 0 64
def encP (x : Nat × E) : Array Value := #[.int .i64 x.1, x.2.val]

theorem look_in (m : M) {p : Nat} (hp : p < 64) : look m p = m p := by unfold look; rw [if_pos (by omega), Int.toNat_natCast]
theorem listN_snoc (m : M) : ∀ k p, listN m p (k + 1) = listN m p k ++ (match m (p + k) with | none => [] | some x => [(p + k, x)])
  | 0, p => by simp [listN]
  | k + 1, p => by
    rw [listN, listN_snoc m k (p + 1), listN, List.append_assoc]
    rw [show p + 1 + k = p + (k + 1) from by omega]
theorem listN_hit (m : M) (k : Nat) {x : E} (h : m k = some x) : listN m 0 (k + 1) = listN m 0 k ++ [(k, x)] := by rw [listN_snoc]; simp [h]
theorem listN_miss (m : M) (k : Nat) (h : m k = none) : listN m 0 (k + 1) = listN m 0 k := by rw [listN_snoc]; simp [h]
theorem listN_len (m : M) : ∀ k p, (listN m p k).length ≤ k
  | 0, p => by simp [listN]
  | k + 1, p => by
    have := listN_len m k (p + 1)
    rw [listN]; cases m p <;> simp <;> omega
theorem listN_prefix (m : M) : ∀ j k, k ≤ j → listN m 0 k <+: listN m 0 j
  | 0, k, h => by
    obtain rfl : k = 0 := by omega
    exact List.prefix_refl _
  | j + 1, k, h => by
    by_cases hk : k = j + 1
    · subst hk; exact List.prefix_refl _
    · rw [listN_snoc]
      exact (listN_prefix m j k (by omega)).trans (List.prefix_append _ _)

set_option maxRecDepth 100000 in
set_option maxHeartbeats 1000000 in
theorem all1_in (l Bn n₀ bt : Nat) (q : Nat → Option Nat) (m : M) (n : Nat) (hn : 3 ≤ n) (J Jx : List (Nat × E) → World → Prop)
    (hJa : ∀ s W W', J s W → Below W.heap.size W W' → J s W')
    (hY : ∀ pre x W, J pre W → pre.length < 64 → YieldAt Fence.wide (n - 1) Try.prog l (encP x) W fun e W' =>
      (e = .returned (.bool true) ∧ J (pre ++ [x]) W' ∧ KpB n₀ Bn W W') ∨ (e = .returned (.bool false) ∧ Jx (pre ++ [x]) W'))
    (W : World) (hBn : Blk W Bn 57 #[.pointer (some ⟨bt, 0, none⟩)]) (hT : Tab W bt q m) (hlo : ∀ k, Own bt q k → k < n₀) (hn₀ : n₀ ≤ W.heap.size) (h0 : J [] W) :
    CallsIn Fence.wide n Try.prog 63 #[.func (.yield l) #[] #[], .pointer (some ⟨Bn, 0, none⟩)] W fun e W' => (∃ v, e = .returned v) ∧
      ((∃ ys, ys = list m ∧ J ys W') ∨ (∃ pre, pre <+: list m ∧ Jx pre W')) := by
  have hkeep : ∀ A B : World, Tab A bt q m → Below n₀ A B → Tab B bt q m := fun A B h hb =>
    ⟨h.top.below hb (hlo _ (.inl rfl)), fun i b hi hq => (h.part i b hi hq).below hb (hlo _ (.inr ⟨i, hi, hq⟩)), h.some_, h.none_, h.inj⟩
  refine callsIn_of_wp Try.func63 rfl trivial ?_ rfl
  simp only [Try.ntmps63, List.size_toArray, List.length_cons, List.length_nil, Nat.reduceAdd, Nat.reduceSub, Array.replicate_succ, Array.replicate_zero, List.push_toArray, List.append_toArray, List.nil_append, List.cons_append]
  gi_wp2
  refine wpIn_scope_straight ?_
  gi_wp2
  refine wpIn_label ?_
  gi_wp2
  gi_loopw [6] (fun c wr => ∃ k : Nat, k ≤ 64 ∧ c = .int .i64 k ∧ J (listN m 0 k) wr ∧ Tab wr bt q m ∧ Blk wr Bn 57 #[.pointer (some ⟨bt, 0, none⟩)] ∧ n₀ ≤ wr.heap.size)
    (fun c _ => 64 - (intOf c).toNat)
  case atStart => exact ⟨0, by omega, rfl, h0, hT, hBn, hn₀⟩
  case round =>
    obtain ⟨k, hk, rfl, hJ, hTr, hBr, hsz⟩ := hrel
    have hcB := hBr.cell 0
    simp only [List.getElem?_toArray, List.getElem?_cons_zero] at hcB
    by_cases hlt : k < 64
    · have hg := fun (W1 : World) (h1 : Tab W1 bt q m) => get_any h1 (k : Int)
      rw [look_in m hlt] at hg
      cases hm : m k with
      | none =>
        have hl := listN_miss m k hm
        rw [hm] at hg
        simp only [gotV, Option.getD_none, Option.isSome_none, E.val, E.zero, E.arr] at hg
        have HG := Lib.hid hg
        have HL := Lib.hid hl
        clear hg hl hm hT hBn hn₀ h0
        gi_wp2_with (refine ⟨trivial, fun _ => by omega, ?_⟩; gi_at_call 37; refine (callsIn_wide.2 (HG.out _ hTr)).mono ?_; rintro e w1 ⟨rfl, hb1⟩)
        go_roundw
        case rel =>
          have hb2 := (hb1.alloc hb1.size (.cells E.zero.arr 71))
          refine ⟨k + 1, by omega, by go_num, ?_, hkeep _ _ hTr (hb2.mono hsz), hBr.below hb2 hBr.lt, by have hz := hb2.size; exact Nat.le_trans hsz hz⟩
          rw [HL.out]
          exact hJa _ _ _ hJ hb2
        case measure => simp [intOf]; omega
      | some x =>
        have hl := listN_hit m k hm
        rw [hm] at hg
        obtain ⟨f, c1, c2, c3, c4⟩ := x
        simp only [gotV, Option.getD_some, Option.isSome_some, E.val, E.zero, E.arr] at hg
        have HG := Lib.hid hg
        have HL := Lib.hid hl
        have hlen := listN_len m k 0
        clear hg hl hm hT hBn hn₀ h0
        gi_wp2_with (refine ⟨trivial, fun _ => by omega, ?_⟩; gi_at_call 37; refine (callsIn_wide.2 (HG.out _ hTr)).mono ?_; rintro e w1 ⟨rfl, hb1⟩; have hb2 := (hb1.alloc hb1.size (.cells #[.int .i64 f, .bool c1, .bool c2, .bool c3, .bool c4] 71)); obtain ⟨fn, tmps, assign, body, hy, hR⟩ := hY _ (k, ⟨f, c1, c2, c3, c4⟩) _ (hJa _ _ _ hJ hb2) (by omega); simp only [encP, E.val, E.arr] at hy)
        refine ⟨fun _ => by omega, hR.mono ?_⟩
        rintro e W3 (⟨rfl, hJ3, hk3⟩ | ⟨rfl, hJx3⟩)
        · gi_wp2
          go_roundw
          case rel =>
            have hb4 := (hb2.mono hsz).trans hk3.1
            have hB4 : Blk W3 Bn 57 #[.pointer (some ⟨bt, 0, none⟩)] := hk3.2.trans (hBr.below hb2 hBr.lt)
            refine ⟨k + 1, by omega, by go_num, ?_, hkeep _ _ hTr hb4, hB4, by have := hb4.size; omega⟩
            rw [HL.out]
            exact hJ3
          case measure => simp [intOf]; omega
        · gi_wp2
          try rw [Exit.noGoto_ret]
          refine bodyPost_ret (results_none rfl _ _ _) rfl ?_
          refine ⟨⟨_, rfl⟩, .inr ⟨_, ?_, hJx3⟩⟩
          rw [← HL.out]
          exact listN_prefix m 64 (k + 1) (by omega)
    · have hk64 : k = 64 := by omega
      subst hk64
      gi_wp2
      rw [Exit.noGoto_normal]
      go_end0
      exact ⟨⟨_, rfl⟩, .inl ⟨_, rfl, hJ⟩⟩
end Go.Proofs.Ytlecfdchmcghlaa
