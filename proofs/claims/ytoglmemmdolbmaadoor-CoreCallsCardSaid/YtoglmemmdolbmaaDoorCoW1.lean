/-
  append(b, make([]byte, k)...): noughts behind a row of bytes of one's own; a program's memory, with its row. Condition: the tables lie as the program's text lays them.
-/
import Derived.Lib.AppendZerosOnto
import Derived.Test.YtoglmemmdolbmaaDoorCoC
namespace Go.Proofs.YtoglmemmdolbmaaDoor
open Go.RowKit
set_option linter.unusedVariables false
set_option linter.unusedSimpArgs false

theorem zeros_bC (k : Nat) : (Builtin.zeroCells (Value.int .u8 0).cells k).toList = (List.replicate k (0 : Int)).flatMap B.bC := by
  rw [flat_map, List.map_replicate]
  apply List.ext_getElem?
  intro i
  by_cases hi : i < k
  · simp [Builtin.zeroCells, Value.cells, hi, Nat.mod_one]
  · simp [Builtin.zeroCells, Value.cells, hi]
theorem run_append_zeros_room {w : World} (ty : TypeId) (g sLen sCap : Nat) (cur : Array Value) (hg : w.heap[g]? = some (.cells cur 5 (0, 0))) (k : Nat) (h0 : 0 < k) (hk : k ≤ 1000000) (hroom : sLen + k ≤ sCap) (hfit : sLen + k ≤ cur.size) :
    (Builtin.append_ #[43, 3] ty #[.slice (some ⟨g, 0, none⟩) sLen sCap, .int .i64 (k : Int)]).run Tryd.prog w =
      .ok (.slice (some ⟨g, 0, none⟩) (sLen + k) sCap) (w.setRow g (cur.toList.take sLen ++ (Builtin.zeroCells (Value.int .u8 0).cells k).toList ++ cur.toList.drop (sLen + k)).toArray) := by
  obtain ⟨i0, hi, hz0, hz1, hz2⟩ := info_parts B.infoB
  have hlen : (Builtin.zeroCells (Value.int .u8 0).cells k).toList.length = k := by simp [Builtin.zeroCells, Value.cells]
  have h1 : ∀ u ∈ (Builtin.zeroCells (Value.int .u8 0).cells k).toList, u.oneCell' = true := fun u hu => by
    rw [zeros_bC, flat_map] at hu
    obtain ⟨x, _, rfl⟩ := List.mem_map.1 hu
    rfl
  have hst := run_storeCells_at Tryd.prog g sLen 5 (Builtin.zeroCells (Value.int .u8 0).cells k).toList 0 cur w hg (by rw [hlen]; simpa using hfit) h1
  simp only [Nat.add_zero] at hst
  rw [hlen] at hst
  have hw : IntKind.i64.wrap (k : Int) = k := by rw [IntKind.wrap_i64]; omega
  have hneg : ¬ ((k : Int) < 0) := by omega
  have h48 : ¬ (281474976710656 < (k : Int)) := by omega
  have hne : ¬ k = 0 := by omega
  simp [Builtin.append_, run_underlying Tryd.underlying43, run_underlying Tryd.underlying3, sizeOf, typeInfo, zeroValue, hi, hz0, hz1, hz2, asInt, asIntOf, hw, hneg, h48, hne, hroom, Addr.add_lit, hst]
/-- Noughts behind one's own row of bytes. -/
theorem append_zeros_own {w : World} {base : Nat} (ty : TypeId) {v : Value} {l : List Int} (h : B.OwnB w base v l) (hne : l ≠ []) (k : Nat) (h0 : 0 < k) (hk : k ≤ 100000) (hl : l.length ≤ 100000) (hbase : base ≤ w.heap.size) :
    ∃ v' w', (Builtin.append_ #[43, 3] ty #[v, .int .i64 (k : Int)]).run Tryd.prog w = .ok v' w' ∧ B.OwnB w' base v' (l ++ List.replicate k 0) ∧ w.grownBy w' v.ownBlock := by
  obtain ⟨i0, hi, hz0, hz1, hz2⟩ := info_parts B.infoB
  have hpos : l.length ≠ 0 := fun h => hne (List.length_eq_zero_iff.1 h)
  have hll : (l ++ List.replicate k (0 : Int)).length = l.length + k := by simp
  have hflat : (l ++ List.replicate k (0 : Int)).flatMap B.bC = l.flatMap B.bC ++ (List.replicate k (0 : Int)).flatMap B.bC := List.flatMap_append
  have hfl : (l.flatMap B.bC).length = l.length := by rw [flat_map, List.length_map]
  have hrl : ((List.replicate k (0 : Int)).flatMap B.bC).length = k := by rw [flat_map, List.length_map, List.length_replicate]
  have hown := h
  obtain ⟨_, ⟨_, hz⟩ | ⟨g, cap, cur, rfl, hb, hg, hc, hcm, hs, ht⟩⟩ := h
  · exact absurd hz hpos
  rw [Nat.mul_one] at hs ht
  by_cases hroom : l.length + k ≤ cap
  · have hr := run_append_zeros_room (w := w) ty g l.length cap cur hg k h0 (by omega) hroom (by omega)
    refine ⟨_, _, hr, ⟨by rw [hflat, List.length_append, hfl, hrl, hll, Nat.mul_one], .inr ⟨g, cap, _, by rw [hll], hb, setRow_heap w g cur _ 5 _ hg, by rw [hll]; exact hroom, hcm, ?_, ?_⟩⟩, ⟨rfl, rfl, rfl, by simp, fun j _ hj => setRow_other w g j _ (fun e => hj (by simp [Value.ownBlock, e]))⟩⟩
    · rw [zeros_bC]
      simp only [List.size_toArray, List.length_append, List.length_take, List.length_drop, Array.length_toList, hrl]
      omega
    · rw [ht, zeros_bC, hflat, hll, Nat.mul_one]
      have e : l.length + k = (l.flatMap B.bC ++ (List.replicate k (0 : Int)).flatMap B.bC).length := by rw [List.length_append, hfl, hrl]
      rw [e]
      exact List.take_left
  · have holds : ∀ j u, (l.flatMap B.bC)[j]? = some u → w.drew.cell? ((⟨g, 0, none⟩ : Addr).add j) = some u := hown.cells (g := g) rfl
    have hold := run_firstCells_some (P := Tryd.prog) w.drew i0.size l.length ⟨g, 0, none⟩ l.length cap (l.flatMap B.bC) (by rw [hz1, hfl, Nat.mul_one]) holds
    have hr := Go.Lib.run_append_grow_zeros (P := Tryd.prog) w 43 3 ty 5 i0 (.int .u8 0) .i64 .i64 Tryd.underlying43 Tryd.underlying3 hi hz0 (some ⟨g, 0, none⟩) l.length cap (l.flatMap B.bC) hold k h0 (by rw [hz1]; decide) (by omega) (by omega) (by rw [hz2]; omega) (growslice_fits (by omega) (by rw [hz2]; omega))
    have hge := grownCap_ge w (l.length + k) cap 5
    have hgm : grownCap w (l.length + k) cap 5 ≤ maxLen := grownCap_le_maxLen w (l.length + k) cap 5 (by unfold maxLen; omega)
    refine ⟨_, _, hr, ⟨by rw [hflat, List.length_append, hfl, hrl, hll, Nat.mul_one], .inr ⟨w.heap.size, grownCap w (l.length + k) cap 5, _, by rw [hll], hbase, heap_alloc_new w.drew _, by rw [hll]; exact hge, hgm, ?_, ?_⟩⟩, ⟨rfl, rfl, rfl, by simp, fun j hj _ => heap_alloc_old w.drew _ hj⟩⟩
    · have e1 : (Builtin.zeroCells (Value.int .u8 0).cells k).size = k := by simp [Builtin.zeroCells, Value.cells]
      have e2 : ∀ n, (Builtin.zeroCells (Value.int .u8 0).cells n).size = n := fun n => by simp [Builtin.zeroCells, Value.cells]
      simp only [Array.size_append, List.size_toArray, e2, hfl]
      omega
    · rw [hll, Nat.mul_one, hflat, Array.toList_append, Array.toList_append, zeros_bC]
      have e : l.length + k = (l.flatMap B.bC ++ (List.replicate k (0 : Int)).flatMap B.bC).length := by rw [List.length_append, hfl, hrl]
      rw [e]
      exact List.take_left

set_option maxRecDepth 100000 in
set_option maxHeartbeats 4000000 in
/-- The law's ram, with the row its bytes lie in. -/
theorem ram_own7 {w : World} (hG : I.Ground w) (s : ByteArray) (hs : s.size ≤ 1000000) {ws : List Int} {n er : Int} (ha : I.asmP (toL s) = (ws, n, er)) (hw : B.Words ws) (hl : ws.length ≤ 100000) :
    Calls Tryd.prog 10 #[.string s] w fun e w' => ∃ (g : Nat) (v : Value), e = .returned (.pointer (some ⟨g, 0, none⟩)) ∧ Blk w' g 46 #[v] ∧ B.OwnB w' w.heap.size v (B.bytesL ws) ∧ w.heap.size ≤ g ∧ (∀ r, v.ownBlock = some r → r < g) ∧ Below w.heap.size w w' := by
  have HA := Lib.hid (I.asm_any hG s hs ha)
  have HB := Lib.hid (fun W A c (h : I.WordsAt W A ws) => B.isaBytes_any (w := W) A c ws (by omega) h hw)
  clear hG ha hw hs hl
  go_enter Tryd.func10, Tryd.ntmps10
  go_wp2_with (fail)
  refine HA.out.mono ?_
  rintro e W1 ⟨A, c, rfl, hwa, hc, hb1⟩
  have HB1 := Lib.hid hb1
  have HWA := Lib.hid hwa
  clear hb1 hwa HA
  go_wp2_with (fail)
  refine (HB.out W1 A c HWA.out).mono ?_
  rintro e W2 ⟨v, rfl, hown, hb2⟩
  have HB2 := Lib.hid (bl_step HB1.out hb2)
  have hs1 := HB1.out.size
  have hlt : ∀ r, v.ownBlock = some r → r < W2.heap.size := fun r hr => by
    obtain ⟨_, ⟨rfl, _⟩ | ⟨g, cap, cur, rfl, _, hg, _⟩⟩ := hown
    · simp [Value.ownBlock] at hr
    · simp [Value.ownBlock] at hr
      subst hr
      exact (Array.getElem?_eq_some_iff.1 hg).1
  have HLT := Lib.hid hlt
  obtain ⟨A2, c2, rfl⟩ : ∃ A2 c2, v = .slice A2 (B.bytesL ws).length c2 := by
    obtain ⟨A2, c2, h, _⟩ := B.ownB_at hown
    exact ⟨A2, c2, h⟩
  have hbn := bl_new (Below.refl W2.heap.size W2) (.cells #[.slice A2 (B.bytesL ws).length c2] 46)
  have hown1 : B.OwnB W2 w.heap.size (.slice A2 (B.bytesL ws).length c2) (B.bytesL ws) := by
    obtain ⟨h1, h2 | ⟨g, cap, cur, h2, h3, h4⟩⟩ := hown
    · exact ⟨h1, .inl h2⟩
    · exact ⟨h1, .inr ⟨g, cap, cur, h2, by omega, h4⟩⟩
  have HOWN := Lib.hid (B.ownsRow_below hown1 hbn)
  have HNEW := Lib.hid (Blk.new W2 46 #[.slice A2 (B.bytesL ws).length c2])
  have HSZ := Lib.hid HB2.out.size
  clear hown hown1 hbn hb2 hlt
  go_wp2
  go_ret
  exact ⟨_, _, rfl, HNEW.out, HOWN.out, HSZ.out, HLT.out, bl_new HB2.out _⟩
end Go.Proofs.YtoglmemmdolbmaaDoor
