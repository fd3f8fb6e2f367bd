/-
  call.Line: a call's line. Condition: the tables lie as the program's text, and the library's, lay them.
-/
import Derived.Test.YthmjddnccgiinaaDoorCa6
import Derived.Test.YthmjddnccgiinaaDoorStr1
import Derived.Test.YthmjddnccgiinaaDoorStr3
import Derived.Test.YthmjddnccgiinaaDoorStr4
namespace Go.Proofs.YthmjddnccgiinaaDoor
open Go.RowKit Go.Shelf
set_option linter.unusedVariables false
set_option linter.unusedSimpArgs false
attribute [local go_sem] Oper.semAt_some

/-- What the calls stand on. -/
structure Ground (w : World) : Prop where
  laid : Laid w
  pow : Pow w
theorem Ground.below {w w' : World} (h : Ground w) (hb : Below w.heap.size w w') : Ground w' := ⟨h.laid.below hb, h.pow.below hb⟩
/-- The line so far. -/
def sOf (N : Int) (pre : List Ag) : ByteArray := ⟨(glue (nameC N :: pre.map wordG)).toArray⟩
theorem sOf_nil (N : Int) : sOf N [] = kN (kR N) := by
  unfold sOf nameC
  show (⟨((kN (kR N)).data.toList).toArray⟩ : ByteArray) = _
  generalize kN (kR N) = t
  cases t; simp
theorem app_bytes (a b : ByteArray) : (a ++ b).data.toList = a.data.toList ++ b.data.toList := by
  rw [ByteArray.data_append]; simp
theorem bytes_eq {a b : ByteArray} (h : a.data.toList = b.data.toList) : a = b := by
  cases a with | mk d => cases b with | mk e => cases d; cases e; simp at h; simp [h]
theorem sOf_snoc (N : Int) (pre : List Ag) (x : Ag) : sOf N (pre ++ [x]) = sOf N pre ++ (⟨#[32]⟩ ++ ⟨(wordG x).toArray⟩) := by
  refine bytes_eq ?_
  rw [app_bytes, app_bytes]
  unfold sOf
  show glue (nameC N :: (pre ++ [x]).map wordG) = glue (nameC N :: pre.map wordG) ++ ([32] ++ wordG x)
  rw [List.map_append, ← List.cons_append]
  exact glue_snoc _ _ _
theorem glue_bound : ∀ (ws : List (List UInt8)) (w : List UInt8) (k : Nat), (∀ u ∈ ws, u.length ≤ k) → (glue (w :: ws)).length ≤ w.length + ws.length * (k + 1)
  | [], w, k, _ => by show w.length ≤ _; omega
  | v :: ws, w, k, h => by
    rw [glue_two, List.length_append, List.length_cons]
    have h1 := glue_bound ws v k (fun u hu => h u (List.mem_cons_of_mem _ hu))
    have h2 := h v (List.mem_cons_self ..)
    rw [List.length_cons, Nat.succ_mul]
    omega
theorem nameC_len (N : Int) : (nameC N).length ≤ 9 := by
  have hall : ∀ k : Fin 23, (kN k.1).data.toList.length ≤ 9 := by decide +kernel
  exact hall ⟨kR N, kR_lt N⟩
theorem wordG_len {x : Ag} (h : x.2 ≤ 4294967295) : (wordG x).length ≤ 20 := dec_len (by omega)
theorem sOf_size (N : Int) (pre : List Ag) (h : ∀ x ∈ pre, x.2 ≤ 4294967295) : (sOf N pre).size ≤ 9 + pre.length * 21 := by
  have h1 := glue_bound (pre.map wordG) (nameC N) 20 (fun u hu => by obtain ⟨x, hx, rfl⟩ := List.mem_map.1 hu; exact wordG_len (h x hx))
  have h2 := nameC_len N
  rw [List.length_map] at h1
  show (glue (nameC N :: pre.map wordG)).length ≤ _
  omega
theorem agL_range {N a b c : Int} (hr : RangeC ⟨N, a, b, c⟩) : ∀ x ∈ agL N a b c, 0 ≤ x.2 ∧ x.2 ≤ 4294967295 := by
  intro x hx
  have := List.mem_of_mem_take hx
  unfold agAll at this
  obtain ⟨h1, h2, h3⟩ := hr
  simp only [List.mem_cons, List.not_mem_nil, or_false] at this
  rcases this with rfl | rfl | rfl
  · exact h1
  · exact h2
  · exact h3

/-- The arguments by their places. -/
def argV (a b c : Int) (j : Fin 3) : Int := [a, b, c].getD j.val 0
def agF (a b c : Int) (j : Fin 3) : Ag := (j, argV a b c j)
def idxL (N : Int) : List (Fin 3) := ([0, 1, 2] : List (Fin 3)).take (agN N)
theorem idx_map (N a b c : Int) : (idxL N).map (agF a b c) = agL N a b c := by
  unfold idxL agL
  rw [List.map_take]
  rfl
theorem agF_of {a b c : Int} {x : Ag} (h : x ∈ agAll a b c) : x = agF a b c x.1 := by
  unfold agAll at h
  simp only [List.mem_cons, List.not_mem_nil, or_false] at h
  rcases h with rfl | rfl | rfl <;> rfl
theorem agF_range {N a b c : Int} (hr : RangeC ⟨N, a, b, c⟩) (j : Fin 3) : 0 ≤ (agF a b c j).2 ∧ (agF a b c j).2 ≤ 4294967295 := by
  obtain ⟨h1, h2, h3⟩ := hr
  match j with
  | 0 => exact h1
  | 1 => exact h2
  | 2 => exact h3
theorem agF_fst (a b c : Int) : ∀ (js : List (Fin 3)), (js.map (agF a b c)).map Prod.fst = js
  | [] => rfl
  | j :: js => by rw [List.map_cons, List.map_cons, agF_fst a b c js]; rfl
theorem args_stops3 (n : Nat) (hn : 6 ≤ n) (Bn n₀ : Nat) (N a b c : Int) (w : World) (hBn : Blk w Bn 27 #[.int .i64 N, .int .u32 a, .int .u32 b, .int .u32 c]) (hL : Laid w) (hg : 0 < n₀) (hn₀ : n₀ ≤ w.heap.size) :
    SeqStopsK Fence.wide n Tryd.prog 47 #[.pointer (some ⟨Bn, 0, none⟩)] (fun j => encA (agF a b c j)) (KpB n₀ Bn) (fun js => js = idxL N) (fun _ => True) 3 w := fun l J Jx W hW hJ _ hY h0 => by
  refine (args1_in l Bn n₀ N a b c n hn (fun pre W => ∃ js, pre = js.map (agF a b c) ∧ J js W) (fun pre W => ∃ js, pre = js.map (agF a b c) ∧ Jx js W) (fun s A B hs hb => by obtain ⟨js, h1, h2⟩ := hs; exact ⟨js, h1, abides_below hJ h2 hb⟩) (fun pre x W1 hx hpre hlen => ?_) W (hBn.below hW hBn.lt) (hL.below hW) hg (by have := hW.size; omega) ⟨[], rfl, h0⟩).mono ?_
  · obtain ⟨js, rfl, hj⟩ := hpre
    rw [List.length_map] at hlen
    have h := hY js x.1 W1 hj hlen
    rw [agF_of hx]
    have hx1 : (agF a b c x.1).1 = x.1 := rfl
    refine h.mono ?_
    rintro e W' (⟨h1, h2, h3⟩ | ⟨h1, h2⟩)
    · exact .inl ⟨h1, ⟨js ++ [x.1], by simp, h2⟩, h3⟩
    · exact .inr ⟨h1, ⟨js ++ [x.1], by simp, h2⟩⟩
  · rintro e W' ⟨hv, ⟨ys, hys, js, rfl, h⟩ | ⟨pre, _, js, _, h⟩⟩
    · refine ⟨hv, .inl ⟨js, ?_, h⟩⟩
      rw [← agF_fst a b c js, hys, ← idx_map, agF_fst]
    · exact ⟨hv, .inr ⟨js, trivial, h⟩⟩

set_option maxRecDepth 100000 in
set_option maxHeartbeats 4000000 in
theorem line_no {w : World} (hG : Ground w) (N a b c : Int) (hm : ¬ MayC ⟨N, a, b, c⟩) :
    Calls Tryd.prog 23 #[.agg #[.int .i64 N, .int .u32 a, .int .u32 b, .int .u32 c]] w fun e w' => e = .returned (.tuple #[.string ⟨#[]⟩, .int .i64 160]) ∧ Below w.heap.size w w' := by
  have hb0 := (Below.refl w.heap.size w).alloc (Nat.le_refl _) (.cells #[.int .i64 N, .int .u32 a, .int .u32 b, .int .u32 c] 27)
  have HC := Lib.hid (show Calls Tryd.prog 33 #[.agg #[.int .i64 N, .int .u32 a, .int .u32 b, .int .u32 c]] _ fun e w' => e = .returned (.bool false) ∧ Below _ _ w' from by
    have h := may_any (hG.below hb0).laid N a b c
    rw [decide_eq_false hm] at h
    exact h)
  have HB0 := Lib.hid hb0
  clear hm hG hb0
  go_enter Tryd.func23, Tryd.ntmps23
  go_wp2_with fail
  refine HC.out.mono ?_
  rintro e w1 ⟨rfl, hb1⟩
  have HB1 := Lib.hid (HB0.out.trans (hb1.mono HB0.out.size))
  clear hb1
  go_wp2
  go_ret2
  exact ⟨rfl, HB1.out⟩

set_option maxRecDepth 100000 in
set_option maxHeartbeats 4000000 in
theorem line_yes_in (n : Nat) (hn : 8 ≤ n) {w : World} (hG : Ground w) (N a b c : Int) (hr : RangeC ⟨N, a, b, c⟩) (hm : MayC ⟨N, a, b, c⟩) :
    CallsIn Fence.wide n Tryd.prog 23 #[.agg #[.int .i64 N, .int .u32 a, .int .u32 b, .int .u32 c]] w fun e w' => e = .returned (.tuple #[.string (sOf N (agL N a b c)), .int .i64 0]) ∧ Below w.heap.size w w' := by
  have h1 : 1 ≤ n := by omega
  have HG := Lib.hid hG
  have HFR := Lib.hid (fun j => agF_range hr j)
  have HSZ := Lib.hid (fun pre (h : ∀ x ∈ pre, x.2 ≤ 4294967295) => sOf_size N pre h)
  obtain ⟨kw, hkw⟩ : ∃ kw : ByteArray, kw = sOf N [] := ⟨_, rfl⟩
  have HN := Lib.hid (fun W (hW : Below w.heap.size w W) => show CallsIn Fence.wide (n - 1) Tryd.prog 12 #[.int .i64 N] W fun e w' => e = .returned (.string kw) ∧ Below W.heap.size W w' from by rw [hkw, sOf_nil]; exact callsIn_wide.2 (name_any (HG.out.below hW).laid N))
  have HC := Lib.hid (fun W (hW : Below w.heap.size w W) => show CallsIn Fence.wide (n - 1) Tryd.prog 33 #[.agg #[.int .i64 N, .int .u32 a, .int .u32 b, .int .u32 c]] W fun e w' => e = .returned (.bool true) ∧ Below W.heap.size W w' from by
    have h := may_any (HG.out.below hW).laid N a b c
    rw [decide_eq_true hm] at h
    exact callsIn_wide.2 h)
  have HKW := Lib.hid hkw
  clear hkw
  have hk0 : 0 < w.heap.size := hG.laid.klt
  clear hG hr hm
  have hb0 := (Below.refl w.heap.size w).alloc (Nat.le_refl _) (.cells #[.int .i64 N, .int .u32 a, .int .u32 b, .int .u32 c] 27)
  have hx0 := Blk.new w 27 #[.int .i64 N, .int .u32 a, .int .u32 b, .int .u32 c]
  refine callsIn_of_wp_marks Tryd.func23 rfl trivial ?_ rfl
  simp only [Tryd.ntmps23, List.size_toArray, List.length_cons, List.length_nil, Nat.reduceAdd, Nat.reduceSub, Array.replicate_succ, Array.replicate_zero, List.push_toArray, List.append_toArray, List.nil_append, List.cons_append]
  gi_wp2_with fail
  refine ⟨trivial, ?_⟩
  refine (HC.out _ hb0).mono ?_
  rintro e W1 ⟨rfl, hb1⟩
  have hx1 := hx0.below hb1 hx0.lt
  have hB1 := hb0.trans (hb1.mono hb0.size)
  have hlt1 := hx1.lt
  obtain ⟨c0, c1, c2, c3, clt⟩ := ccells hx1
  clear hx0 hb1 hb0
  gi_wp2_with fail
  refine ⟨trivial, ?_⟩
  refine (HN.out _ hB1).mono ?_
  rintro e W2 ⟨rfl, hb2⟩
  have hx2 := hx1.below hb2 hlt1
  have hB2 := bl_step hB1 hb2
  have hlt2 := hx2.lt
  clear c0 c1 c2 c3 clt
  obtain ⟨c0, c1, c2, c3, clt⟩ := ccells hx2
  clear hx1 hb2 hB1 hlt1
  gi_wp2_with (refine ⟨trivial, ?_⟩; gi_at_call 34; refine (args_in (n - 1) _ _ _ _ _).mono ?_; rintro e w' ⟨rfl, rfl⟩)
  obtain ⟨G, hG⟩ : ∃ G, G = W2.heap.size := ⟨_, rfl⟩
  have hwG : w.heap.size < G := by rw [hG]; exact hlt2
  have hS4 := (Blk.new W2 9 #[.string kw]).alloc (.cells #[.int .i64 N, .int .u32 a, .int .u32 b, .int .u32 c] 27)
  have hA4 := Blk.new (W2.alloc (.cells #[.string kw] 9)) 27 #[.int .i64 N, .int .u32 a, .int .u32 b, .int .u32 c]
  simp only [World.size_alloc] at hS4 hA4
  have hB4 : Below w.heap.size w ((W2.alloc (.cells #[.string kw] 9)).alloc (.cells #[.int .i64 N, .int .u32 a, .int .u32 b, .int .u32 c] 27)) := bl_new (bl_new hB2 _) _
  have hs4 : ((W2.alloc (.cells #[.string kw] 9)).alloc (.cells #[.int .i64 N, .int .u32 a, .int .u32 b, .int .u32 c] 27)).heap.size = W2.heap.size + 2 := by simp
  obtain ⟨W4, hW4⟩ : ∃ W4, ((W2.alloc (.cells #[.string kw] 9)).alloc (.cells #[.int .i64 N, .int .u32 a, .int .u32 b, .int .u32 c] 27)) = W4 := ⟨_, rfl⟩
  rw [hW4] at hS4 hA4 hB4 hs4 ⊢
  rw [← hG] at hS4 hA4 hs4 ⊢
  clear hW4 hx2 hlt2 c0 c1 c2 c3 hB2 hG
  rw [HKW.out] at hS4
  refine wpIn_rangeFunc_ownH rfl h1 (gf := 47) (lb := #[.pointer (some ⟨G + 1, 0, none⟩)]) rfl trivial (enters_of Tryd.func47 (by kernel_rfl) rfl)
    (args_stops3 (n - 1) (by omega) (G + 1) w.heap.size N a b c W4 hA4 (HG.out.below hB4).laid hk0 (by omega)) kpB_t (kpB_b (by omega) (by omega)) (Below.refl _ _) (fun _ => rfl)
    (fun (pre : List (Fin 3)) W => Blk W G 9 #[.string (sOf N (pre.map (agF a b c)))] ∧ Blk W (G + 1) 27 #[.int .i64 N, .int .u32 a, .int .u32 b, .int .u32 c] ∧ Below w.heap.size w W)
    (fun _ _ _ => False)
    (OwnFrom.and (Own.from (blk_own _ _ (fun (pre : List (Fin 3)) => #[.string (sOf N (pre.map (agF a b c)))])) _) (OwnFrom.and (Own.from (blk_own _ _ (fun _ => #[.int .i64 N, .int .u32 a, .int .u32 b, .int .u32 c])) _) (ownFrom_below (Nat.le_refl _) (by omega))))
    (fun _ _ _ _ _ hs _ _ => hs)
    ⟨hS4, hA4, hB4⟩
    (fun j a' W => a' = { tmps := #[.agg #[.int .i64 N, .int .u32 a, .int .u32 b, .int .u32 c], .pointer (some ⟨w.heap.size, 0, none⟩), .string ⟨#[]⟩, .int .i64 0, .pointer (some ⟨G, 0, none⟩), undef, .int .u32 (argV a b c j), .agg #[.int .i64 N, .int .u32 a, .int .u32 b, .int .u32 c], .bool true, .bool false, .pointer (some ⟨w.heap.size, 0, none⟩), .int .i64 N, .string kw, .agg #[.int .i64 N, .int .u32 a, .int .u32 b, .int .u32 c], .func (.func 47) #[] #[.pointer (some ⟨G + 1, 0, none⟩)], .int .i64 (j.val : Int), .int .u32 (argV a b c j), undef, undef, undef, undef, undef, undef, undef], defers := [] })
    (fun j a' _ X Y row hs hg hr => hs)
    ?assign ?body ?done ?stop
  case assign =>
    rintro l pre j W K hI hK
    simp only [encA, agF] at hK ⊢
    gi_wp2
    exact hK _ _ ⟨Nat.le_refl _, fun k o _ hk _ => hk⟩ ⟨Below.refl _ _, rfl⟩ hI rfl
  case body =>
    rintro l pre j a' W hl ⟨r, hr⟩ ⟨bS, bA, hB⟩ rfl hlt
    have hsn := sOf_snoc N (pre.map (agF a b c)) (agF a b c j)
    have hsz0 := HSZ.out (pre.map (agF a b c)) (fun y hy => by obtain ⟨i, _, rfl⟩ := List.mem_map.1 hy; exact (HFR.out i).2)
    rw [List.length_map] at hsz0
    obtain ⟨s0, hs0⟩ : ∃ s0, sOf N (pre.map (agF a b c)) = s0 := ⟨_, rfl⟩
    obtain ⟨sw, hsw⟩ : ∃ sw : ByteArray, (⟨(wordG (agF a b c j)).toArray⟩ : ByteArray) = sw := ⟨_, rfl⟩
    obtain ⟨hv0, hv1⟩ := HFR.out j
    have hsw2 : (⟨(Lib.decDigits (argV a b c j).toNat).toArray⟩ : ByteArray) = sw := hsw
    have hv0 : 0 ≤ argV a b c j := hv0
    have hv1' : argV a b c j ≤ 4294967295 := hv1
    generalize argV a b c j = v at *
    have hszw : sw.size ≤ 20 := by rw [← hsw]; exact wordG_len hv1
    rw [hs0, hsw] at hsn
    rw [hs0] at bS hsz0
    have hs0l : s0.size ≤ 100 := by omega
    have HSN := Lib.hid hsn
    have HF := Lib.hid (fun V (hV : Below w.heap.size w V) => show CallsIn (Fence.wide.inRound l) (n - 1 - 1 - 1) Tryd.prog 35 #[.int .u64 v, .int .i64 10] V fun e w' => e = .returned (.string sw) ∧ Below V.heap.size V w' from by
      have h := formatUint_any (HG.out.below hV).pow v.toNat (by omega)
      rw [show ((v.toNat : Nat) : Int) = v by omega] at h
      rw [← hsw2]
      exact callsIn_wide.2 h)
    have hz1 : (⟨#[32]⟩ ++ sw : ByteArray).size = 1 + sw.size := by rw [ByteArray.size_append]; rfl
    have hz2 : (s0 ++ (⟨#[32]⟩ ++ sw) : ByteArray).size = s0.size + (1 + sw.size) := by rw [ByteArray.size_append, hz1]
    have hcv : IntKind.u64.wrap v = v := Int.emod_eq_of_lt (by omega) (by show v < 18446744073709551616; omega)
    have HN3 := Lib.hid (show 1 ≤ n - 1 - 1 by omega)
    have HA := Lib.hid bA
    have HBB := Lib.hid hB
    have HS := Lib.hid bS
    have hc := (bS.cell 0).trans (show _ = some (.string s0) from rfl)
    have hlt2 := bS.lt
    clear hr hsz0 hs0 hsw hsw2 hsn bA hB bS hv1
    gi_wp2
    gi_region_with (refine ⟨trivial, fun _ => HN3.out, ?_⟩; refine (HF.out _ HBB.out.drew).mono ?_; rintro e V ⟨rfl, hb3⟩; have hS3 := (show Blk W.drew G 9 #[.string s0] from HS.out).below hb3 HS.out.lt; have hc3 := (hS3.cell 0).trans (show _ = some (.string s0) from rfl); have hf3 := hS3.frozen 0; have hlt3 := hS3.lt)
    all_goals
      have hKO : KeepsOthers W (V.setCell ⟨G, 0, none⟩ (.string (s0 ++ (⟨#[32]⟩ ++ sw)))) := ((KeepsOthers.drew W).trans (KeepsOthers.of_grownBy (grownBy_below hb3) (fun j o e => by cases e))).trans (KeepsOthers.setCell _ _ _)
      have hsW : W.drew.heap.size = W.heap.size := rfl
      have hBV : Below w.heap.size w V := HBB.out.drew.trans (hb3.mono HBB.out.size)
      have hA3 := (show Blk W.drew (G + 1) 27 _ from HA.out).below hb3 HA.out.lt
      have hAe : (V.setCell ⟨G, 0, none⟩ (.string (s0 ++ (⟨#[32]⟩ ++ sw)))).heap[G + 1]? = W.heap[G + 1]? := (Below.heap_setCell V _ _ (G + 1) (by show G + 1 ≠ G; omega)).trans (hb3.block (G + 1) HA.out.lt)
      have hBW : Below w.heap.size W (V.setCell ⟨G, 0, none⟩ (.string (s0 ++ (⟨#[32]⟩ ++ sw)))) := ((Below.refl w.heap.size W).drew.trans (hb3.mono HBB.out.size)).setCell (p := ⟨G, 0, none⟩) (by show w.heap.size ≤ G; omega) _
      have hS5 := hS3.set_ 0 (.string (s0 ++ (⟨#[32]⟩ ++ sw)))
      clear hc3 hf3 hc
      gi_wp2
      refine ⟨hKO.from _, ⟨hBW, hAe⟩, ?_, hA3.far (p := ⟨G, 0, none⟩) (by show G + 1 ≠ G; omega) _, hBV.setCell (p := ⟨G, 0, none⟩) (by show w.heap.size ≤ G; omega) _⟩
      rw [List.map_append, List.map_cons, List.map_nil, HSN.out]
      exact hS5
  case done =>
    rintro D ys W hD rfl ⟨bS, bA, hB⟩ hK
    have hc := bS.cell 0
    have he : sOf N ((idxL N).map (agF a b c)) = sOf N (agL N a b c) := by rw [idx_map]
    rw [he] at hc
    obtain ⟨s9, hs9⟩ : ∃ s9, s9 = sOf N (agL N a b c) := ⟨_, rfl⟩
    rw [← hs9] at hc
    have HS9 := Lib.hid hs9
    clear hs9
    have hlt9 := bS.lt
    clear he bS bA
    simp only [List.getElem?_toArray, List.getElem?_cons_zero] at hc
    gi_wp2
    refine ⟨by simp, .inl ⟨_, _, rfl, run_takeDeferred hK, ?_⟩⟩
    refine ⟨_, results_tmp2 rfl _ _ _, ?_, hB.trans (belowK_b (w := w) (Nat.le_refl _) _ D _ _ (by omega) hK rfl rfl)⟩
    rw [← HS9.out]
    rfl
  case stop =>
    rintro D c pre W _ _ h _
    exact h.elim
theorem line_yes {w : World} (hG : Ground w) (N a b c : Int) (hr : RangeC ⟨N, a, b, c⟩) (hm : MayC ⟨N, a, b, c⟩) :
    Calls Tryd.prog 23 #[.agg #[.int .i64 N, .int .u32 a, .int .u32 b, .int .u32 c]] w fun e w' => e = .returned (.tuple #[.string ⟨(lineC ⟨N, a, b, c⟩).toArray⟩, .int .i64 0]) ∧ Below w.heap.size w w' :=
  callsIn_wide.1 (line_yes_in 8 (by omega) hG N a b c hr hm)
end Go.Proofs.YthmjddnccgiinaaDoor
