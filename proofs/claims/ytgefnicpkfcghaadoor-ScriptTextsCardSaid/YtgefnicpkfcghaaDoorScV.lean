/-
  script.Of: the script of any bytes, up to 6,000. No other condition.
-/
import Derived.Stop.RegionWithIn
import Derived.Test.YtgefnicpkfcghaaDoorScC
import Derived.Test.YtgefnicpkfcghaaDoorScF
import Derived.Test.YtgefnicpkfcghaaDoorRowMem
namespace Go.Proofs.YtgefnicpkfcghaaDoor
open Go.RowKit Go.Shelf
set_option linter.unusedVariables false
set_option linter.unusedSimpArgs false
attribute [local go_sem] Oper.semAt_some

/-- append at a step of a region that draws its order, inside a fence. -/
theorem stepIn_append_own {F : Fence} {n : Nat} {P : Program} (w : World) {ops : Array Oper} {o : Oper} {a : Act} {K : Act → World → Prop} {Q : Exit → Act → World → Prop} {E : Prop} (hgd : o.guard = none) (s x : Operand) (t : TypeId)
    (ho : o.op = .call { callee := .builtin .append, args := #[s, x], argTypes := #[t, t] })
    (base : Nat) (e : TypeId) (i : TypeInfo) (z : Value) (size bytes : Nat) (h1 : P.underlying t = some (.slice e)) (h2 : P.info? e = some i) (h3 : i.zero = some z) (h4 : i.size = size) (h5 : i.bytes = bytes) (h6 : z.cells.size = size) (h7 : 0 < size)
    (v : Value) (k : Nat) (xs : List Value) (hs : a.eval s = v) (hown : w.ownsRow base e size v k xs) (ad : Addr) (m c : Nat) (news : List Value) (hx : a.eval x = .slice (some ad) m c) (hn : news.length = m * size)
    (hc : ∀ j u, news[j]? = some u → w.cell? (ad.add j) = some u) (h1c : ∀ u ∈ news, u.oneCell' = true) (b1 : k + m ≤ maxLen) (b2 : (k + m) * bytes ≤ 140737488355328) (b3 : base ≤ w.heap.size)
    (hK : ∀ v' w', w'.ownsRow base e size v' (k + m) (xs ++ news) → w.grownBy w' v.ownBlock → K (a.put o.dst v') w') :
    if Region.wanted o (yielded ops a.tmps) = true then Oper.wpIn F n P o a w K Q else E := by
  have hw : Region.wanted o (yielded ops a.tmps) = true := by simp [Region.wanted, hgd]
  rw [if_pos hw]
  obtain ⟨v', w', hrun, r1, r2, r3⟩ := run_append_own (P := P) w base t o.type e i z size bytes h1 h2 h3 h4 h5 h6 h7 v k xs hown ad m c news hn hc h1c b1 b2 b3
  unfold Oper.wpIn
  refine ⟨?_, ?_⟩
  · simp [Oper.about, ho, resolve, Target.leads, Sem.run_pure]
  · rw [Oper.semAt_plain F _ _ (by rw [ho]; intro c hc'; cases hc')]
    simp [execOp, ho, resolve, invoke, builtin, hs, hx, hrun, Result.andThen]
    exact hK v' w' r1 r2

/-! ## plain -/
def bCell (b : UInt8) : List Value := [.int .u8 (b.toNat : Int)]
abbrev BytesAt (w : World) (A : Option Addr) (l : List UInt8) : Prop := RowsAt w A 1 (l.map bCell)
theorem byte_at {w : World} {A : Option Addr} {l : List UInt8} (h : BytesAt w A l) {i : Nat} {x : UInt8} (hx : l[i]? = some x) : ∃ b off, A = some ⟨b, off, none⟩ ∧ b < w.heap.size ∧ w.cell? ⟨b, off + i, none⟩ = some (.int .u8 (x.toNat : Int)) := by
  obtain ⟨b, off, hA, hb, hc⟩ := h i (bCell x) (by rw [List.getElem?_map, hx]; rfl)
  have := hc 0 _ rfl
  rw [Nat.mul_one] at this
  exact ⟨b, off, hA, hb, this⟩
def byteN (l : List UInt8) (i : Nat) : Nat := (l.getD i 0).toNat
def opK (l : List UInt8) (k : Nat) : O := ofO (byteN l (4 * k)) (byteN l (4 * k + 1)) (byteN l (4 * k + 2)) (byteN l (4 * k + 3))
/-- The script of any bytes. -/
def ofL (l : List UInt8) : List O := (List.range (l.length / 4)).map (opK l)
def ofC (l : List UInt8) (ks : List Nat) : List O := ks.filterMap fun k => if 4 * k + 4 ≤ l.length then some (opK l k) else none
theorem ofC_snoc (l : List UInt8) (ks : List Nat) (k : Nat) : ofC l (ks ++ [k]) = ofC l ks ++ (if 4 * k + 4 ≤ l.length then [opK l k] else []) := by
  unfold ofC
  rw [List.filterMap_append]
  congr 1
  by_cases h : 4 * k + 4 ≤ l.length
  · simp [h]
  · simp [h]
theorem ofC_len (l : List UInt8) (ks : List Nat) : (ofC l ks).length ≤ ks.length := List.length_filterMap_le _ _
theorem ofC_range (l : List UInt8) : ∀ m, m ≤ l.length / 4 → ofC l (List.range m) = (List.range m).map (opK l)
  | 0, _ => rfl
  | m + 1, h => by
    rw [List.range_succ, ofC_snoc, ofC_range l m (by omega), if_pos (by omega), List.map_append]
    rfl
theorem ofC_all (l : List UInt8) : ofC l ((List.finRange (chunks l.length)).map Fin.val) = ofL l := by
  have e : (List.finRange (chunks l.length)).map Fin.val = List.range (chunks l.length) := by
    apply List.ext_getElem
    · simp
    · intro i h1 h2
      simp
  rw [e]
  unfold ofL
  by_cases h : chunks l.length = l.length / 4
  · rw [h, ofC_range l _ (Nat.le_refl _)]
  · have h2 : chunks l.length = l.length / 4 + 1 := by unfold chunks at *; omega
    rw [h2, List.range_succ, ofC_snoc, ofC_range l _ (Nat.le_refl _), if_neg (by omega), List.append_nil]

theorem chunk_fn (n : Nat) (A : Option Addr) (len cap : Nat) (w : World) :
    CallsIn Fence.wide n Tryd.prog 47 #[.slice A len cap, .int .i64 4] w fun e w' => e = .returned (.func (.func 65) #[] #[.pointer (some ⟨w.heap.size, 0, none⟩), .pointer (some ⟨w.heap.size + 1, 0, none⟩)]) ∧
      w' = (w.alloc (.cells #[.slice A len cap] 46)).alloc (.cells #[.int .i64 4] 3) := chunk_in Fence.wide n trivial rfl A len cap w

/-- The script so far, in its box. -/
structure VI (w : World) (l : List O) (v : Value) (W : World) : Prop where
  bx : Blk W w.heap.size 37 #[v]
  o : W.ownsRow (w.heap.size + 3) 24 7 v l.length (l.flatMap O.cells)
  b : Below w.heap.size w W
  s : w.heap.size + 3 ≤ W.heap.size
section
variable {w W W' : World} {l : List O} {v : Value}
theorem VI.walks {row : Option Nat} {B : Nat} (h : VI w l v W) (hB : w.heap.size ≤ B) (hg : W.grownBy W' row) (hr : ∀ r, row = some r → B ≤ r ∧ ∃ o : Obj, W.heap[r]? = some o ∧ o.isCells = false) : VI w l v W' :=
  ⟨blk_own _ _ (fun _ : Unit => _) () _ _ _ h.bx hg (fun r e => (hr r e).2), own_walks h.o hg (fun r e => (hr r e).2), h.b.grown hg h.b.size (fun k e => Nat.le_trans hB (hr k e).1), Nat.le_trans h.s hg.size⟩
theorem VI.below (h : VI w l v W) (hb : Below W.heap.size W W') : VI w l v W' := ⟨h.bx.below hb h.bx.lt, ownsRow_below h.o hb, h.b.trans (hb.mono h.b.size), Nat.le_trans h.s hb.size⟩
theorem VI.drew (h : VI w l v W) : VI w l v W.drew := ⟨h.bx, h.o, h.b.drew, h.s⟩
/-- One operation more. -/
theorem VI.more {W V w7 : World} {x : O} {v' : Value} {tmp : Obj} (h : VI w l v W) (hV : Below W.heap.size W V) (ho : w7.ownsRow (w.heap.size + 3) 24 7 v' (l.length + 1) (l.flatMap O.cells ++ x.cells)) (hg : (V.alloc tmp).grownBy w7 v.ownBlock) :
    VI w (l ++ [x]) v' (w7.setCell ⟨w.heap.size, 0, none⟩ v') ∧ w7.cell? ⟨w.heap.size, 0, none⟩ = some v ∧ w7.frozen? ⟨w.heap.size, 0, none⟩ = false ∧ w.heap.size < w7.heap.size ∧ KeepsOthers W (w7.setCell ⟨w.heap.size, 0, none⟩ v') ∧
    (Below w.heap.size W (w7.setCell ⟨w.heap.size, 0, none⟩ v') ∧ (w7.setCell ⟨w.heap.size, 0, none⟩ v').heap[w.heap.size + 1]? = W.heap[w.heap.size + 1]? ∧ (w7.setCell ⟨w.heap.size, 0, none⟩ v').heap[w.heap.size + 1 + 1]? = W.heap[w.heap.size + 1 + 1]?) := by
  have hv2 := h.below hV
  have hrow := own_row (hv2.o.alloc tmp)
  have hne : ∀ k, k < w.heap.size + 3 → some k ≠ v.ownBlock := fun k hk e => by have := (hrow k e.symm).1; omega
  have hb7 : Blk w7 w.heap.size 37 #[v] := (hv2.bx.alloc tmp).grown hg (hne _ (by omega))
  have hB7 : Below w.heap.size w w7 := (hv2.b.alloc hv2.b.size tmp).grown hg (by have := hv2.b.size; simp; omega) (fun r e => by have := (hrow r e).1; omega)
  have hW7 : Below w.heap.size W w7 := ((hV.mono h.b.size).alloc (by have := hv2.b.size; omega) tmp).grown hg (by have := hv2.b.size; simp; omega) (fun r e => by have := (hrow r e).1; omega)
  have hk : ∀ k, k < w.heap.size + 3 → k ≠ w.heap.size → (w7.setCell ⟨w.heap.size, 0, none⟩ v').heap[k]? = W.heap[k]? := fun k hk hkn => by
    have hkW : k < W.heap.size := Nat.lt_of_lt_of_le hk h.s
    have hkV : k < (V.alloc tmp).heap.size := by have := hV.size; simp; omega
    rw [Below.heap_setCell _ _ _ _ hkn, hg.block k hkV (hne k hk), Below.heap_alloc _ _ _ (by have := hV.size; omega), hV.block k hkW]
  refine ⟨⟨?_, own_set ?_ (by simp) _, hB7.setCell (by simp) _, ?_⟩, (hb7.cell 0).trans rfl, hb7.frozen 0, hb7.lt, ?_, hW7.setCell (by simp) _, hk _ (by omega) (by omega), hk _ (by omega) (by omega)⟩
  · have := hb7.set_ 0 v'
    simpa using this
  · rw [List.length_append, List.flatMap_append]
    simpa using ho
  · have h1 := hg.size
    have h2 := hv2.s
    have h3 : (V.alloc tmp).heap.size = V.heap.size + 1 := World.size_alloc ..
    simp [World.setCell]
    omega
  · refine (((KeepsOthers.of_grownBy (grownBy_below hV) (fun j o e => by cases e)).trans (KeepsOthers.alloc V tmp)).trans (KeepsOthers.of_grownBy hg (fun j o e hj => ?_))).trans (KeepsOthers.setCell _ _ _)
    obtain ⟨_, o', ho', hc⟩ := hrow j e
    rw [hj] at ho'
    injection ho' with ho'
    rw [ho']
    exact hc
end

set_option maxRecDepth 100000 in
set_option maxHeartbeats 8000000 in
theorem ofs_in (n : Nat) (hn : 12 ≤ n) {w : World} (A : Option Addr) (bs : List UInt8) (ca : Nat) (hbl : bs.length ≤ 6000) (hcap : bs.length ≤ ca) (hcm : ca ≤ 9223372036854775807) (hx : BytesAt w A bs) :
    CallsIn Fence.wide n Tryd.prog 24 #[.slice A bs.length ca] w fun e w' => ∃ v, e = .returned v ∧ OwnO w' w.heap.size v (ofL bs) ∧ Below w.heap.size w w' := by
  have h1 : 1 ≤ n := by omega
  obtain ⟨i0, hi, hz0, hz1, hz2⟩ := info_parts infoO
  have hA : ∃ g off, 0 < bs.length → A = some ⟨g, off, none⟩ ∧ g < w.heap.size := by
    by_cases h0 : 0 < bs.length
    · obtain ⟨g, off, hA, hg, _⟩ := byte_at hx (List.getElem?_eq_getElem h0)
      exact ⟨g, off, fun _ => ⟨hA, hg⟩⟩
    · exact ⟨0, 0, fun h => absurd h h0⟩
  obtain ⟨g, off, hA⟩ := hA
  have HX := Lib.hid hx
  have HA := Lib.hid hA
  clear hx hA
  refine callsIn_of_wp_marks Tryd.func24 rfl trivial ?_ rfl
  simp only [Tryd.ntmps24, List.size_toArray, List.length_cons, List.length_nil, Nat.reduceAdd, Nat.reduceSub, Array.replicate_succ, Array.replicate_zero, List.push_toArray, List.append_toArray, List.nil_append, List.cons_append]
  gi_wp2_with (refine ⟨trivial, ?_⟩; gi_at_call 47; refine (chunk_fn (n - 1) _ _ _ _).mono ?_; rintro e w' ⟨rfl, rfl⟩)
  have hO0 := ((Blk.new w 37 #[.slice none 0 0]).alloc (.cells #[.slice A bs.length ca] 46)).alloc (.cells #[.int .i64 4] 3)
  have hS0 := (Blk.new (w.alloc (.cells #[.slice none 0 0] 37)) 46 #[.slice A bs.length ca]).alloc (.cells #[.int .i64 4] 3)
  have hN0 := Blk.new ((w.alloc (.cells #[.slice none 0 0] 37)).alloc (.cells #[.slice A bs.length ca] 46)) 3 #[.int .i64 4]
  simp only [World.size_alloc] at hO0 hS0 hN0
  have hB0 : Below w.heap.size w (((w.alloc (.cells #[.slice none 0 0] 37)).alloc (.cells #[.slice A bs.length ca] 46)).alloc (.cells #[.int .i64 4] 3)) := (bl_2 w _ _).alloc (by simp; omega) _
  have hs0 : (((w.alloc (.cells #[.slice none 0 0] 37)).alloc (.cells #[.slice A bs.length ca] 46)).alloc (.cells #[.int .i64 4] 3)).heap.size = w.heap.size + 3 := by simp
  generalize (((w.alloc (.cells #[.slice none 0 0] 37)).alloc (.cells #[.slice A bs.length ca] 46)).alloc (.cells #[.int .i64 4] 3)) = W0 at *
  have hI0 : VI w (ofC bs []) (.slice none 0 0) W0 := ⟨hO0, World.ownsRow_nil _ _ _ _, hB0, by omega⟩
  refine wpIn_rangeFunc_ownH rfl h1 (gf := 65) (lb := #[.pointer (some ⟨w.heap.size + 1, 0, none⟩), .pointer (some ⟨w.heap.size + 1 + 1, 0, none⟩)]) rfl trivial (enters_of Tryd.func65 (by kernel_rfl) rfl)
    (chunk_stops (n - 1) (by omega) (w.heap.size + 1) (w.heap.size + 1 + 1) w.heap.size g off bs.length ca A (fun h => (HA.out h).1) hcap (by omega) hcm W0 hS0 hN0)
    (fun h k => ⟨h.1.trans k.1, k.2.1.trans h.2.1, k.2.2.trans h.2.2⟩) (fun W l o o' hl h h1 h2 => ⟨belowK_b (by omega) W l o o' hl h h1 h2, World.putObj_heap_other (by omega), World.putObj_heap_other (by omega)⟩) (Below.refl _ _) (fun _ => rfl)
    (fun (pre : List (Fin (chunks bs.length))) W => ∃ v, VI w (ofC bs (pre.map Fin.val)) v W)
    (fun c pre W => False)
    (fun pre X Y row hs hg hr => hs.elim fun v h => ⟨v, h.walks (by omega) hg hr⟩)
    (fun c pre X Y row hs hg hr => hs)
    ⟨_, hI0⟩
    (fun x a' W => a' = { tmps := #[.slice A bs.length ca, undef, .slice none 0 0, .pointer (some ⟨w.heap.size, 0, none⟩), .slice (some ⟨g, off + 4 * x.val, none⟩) (chunkLen bs.length x.val) (chunkLen bs.length x.val), .slice A bs.length ca, .func (.func 65) #[] #[.pointer (some ⟨w.heap.size + 1, 0, none⟩), .pointer (some ⟨w.heap.size + 1 + 1, 0, none⟩)], .slice (some ⟨g, off + 4 * x.val, none⟩) (chunkLen bs.length x.val) (chunkLen bs.length x.val), undef, undef, undef, undef, undef, undef, undef, undef, undef, undef, undef, undef, undef, undef], defers := [] })
    (fun x a' _ X Y row hs hg hr => hs)
    ?assign ?body ?done ?stop
  case assign =>
    rintro l pre x W K' hI hK'
    simp only [encC] at hK' ⊢
    gi_wp2
    exact hK' _ _ (KeepsFrom.refl _ _) ⟨Below.refl _ _, rfl, rfl⟩ hI rfl
  case body =>
    rintro l pre x a' W hl ⟨r, hr⟩ ⟨v, hI⟩ rfl hlt
    obtain ⟨k, hk⟩ := x
    dsimp only
    have hlen : 0 < bs.length := by unfold chunks at hk; omega
    have hlc : chunks bs.length ≤ 1500 := by unfold chunks; omega
    have hpl : (ofC bs (pre.map Fin.val)).length < 10000 := by
      have := ofC_len bs (pre.map Fin.val)
      rw [List.length_map] at this
      omega
    obtain ⟨hAe, hgl⟩ := HA.out hlen
    obtain ⟨acc, hacc⟩ : ∃ acc, acc = ofC bs (pre.map Fin.val) := ⟨_, rfl⟩
    rw [← hacc] at hI hpl
    have HACC := Lib.hid hacc
    obtain ⟨cl, hcl⟩ : ∃ cl, cl = chunkLen bs.length k := ⟨_, rfl⟩
    rw [← hcl]
    have HI := Lib.hid hI
    have hc := hI.bx.cell 0
    simp only [List.getElem?_toArray, List.getElem?_cons_zero] at hc
    obtain ⟨E, ce, rfl, _, _⟩ := ownO_at hI.o
    have hpi : (acc.length : Int) < 10000 := by omega
    clear hacc hI hI0
    by_cases hfull : 4 * k + 4 ≤ bs.length
    · have h4 : cl = 4 := by rw [hcl]; unfold chunkLen; omega
      subst h4
      clear hcl
      have hby : ∀ j, j < 4 → ∃ u : UInt8, bs[4 * k + j]? = some u ∧ w.cell? ⟨g, off + (4 * k + j), none⟩ = some (.int .u8 (u.toNat : Int)) := fun j hj => by
        obtain ⟨b', o', hA', _, hcc⟩ := byte_at HX.out (List.getElem?_eq_getElem (show 4 * k + j < bs.length by omega))
        rw [hAe] at hA'
        injection hA' with hA'
        injection hA' with e1 e2 _
        subst e1 e2
        exact ⟨_, List.getElem?_eq_getElem (by omega), hcc⟩
      obtain ⟨u0, hu0, d0⟩ := hby 0 (by omega)
      obtain ⟨u1, hu1, d1⟩ := hby 1 (by omega)
      obtain ⟨u2, hu2, d2⟩ := hby 2 (by omega)
      obtain ⟨u3, hu3, d3⟩ := hby 3 (by omega)
      have hop : opK bs k = ofO u0.toNat u1.toNat u2.toNat u3.toNat := by
        unfold opK byteN
        simp only [List.getD_eq_getElem?_getD]
        rw [show 4 * k = 4 * k + 0 from rfl, hu0, show 4 * k + 0 + 1 = 4 * k + 1 from rfl, hu1, show 4 * k + 0 + 2 = 4 * k + 2 from rfl, hu2, show 4 * k + 0 + 3 = 4 * k + 3 from rfl, hu3]
        rfl
      obtain ⟨x, hxo⟩ : ∃ x, x = ofO u0.toNat u1.toNat u2.toNat u3.toNat := ⟨_, rfl⟩
      have HOF := Lib.hid (fun V (hV : Below w.heap.size w V) => show CallsIn (Fence.wide.inRound l) (n - 1 - 1 - 1) Tryd.prog 48 #[.slice (some ⟨g, off + 4 * k, none⟩) 4 4] V fun e w' => e = .returned (.agg x.cells.toArray) ∧ Below V.heap.size V w' from by
        rw [hxo]
        have hglV : g < V.heap.size := Nat.lt_of_lt_of_le hgl hV.size
        have hcV : ∀ j, V.cell? ⟨g, j, none⟩ = w.cell? ⟨g, j, none⟩ := fun j => hV.cell (p := ⟨g, j, none⟩) hgl
        refine callsIn_wide.2 (callsIn_wide.1 (of_in 6 (by omega) g (off + 4 * k) 4 _ _ _ _ (UInt8.toNat_lt u0) (UInt8.toNat_lt u1) (UInt8.toNat_lt u2) (UInt8.toNat_lt u3) hglV ?_ ?_ ?_ ?_))
        · rw [hcV, show off + 4 * k = off + (4 * k + 0) from by omega]; exact d0
        · rw [hcV, show off + 4 * k + 1 = off + (4 * k + 1) from by omega]; exact d1
        · rw [hcV, show off + 4 * k + 2 = off + (4 * k + 2) from by omega]; exact d2
        · rw [hcV, show off + 4 * k + 3 = off + (4 * k + 3) from by omega]; exact d3)
      have hnew : ofC bs ((pre ++ [(⟨k, hk⟩ : Fin (chunks bs.length))]).map Fin.val) = acc ++ [x] := by
        rw [List.map_append]
        show ofC bs (_ ++ [k]) = _
        rw [ofC_snoc, if_pos hfull, HACC.out, hop.trans hxo.symm]
      have HN3 := Lib.hid (show 1 ≤ n - 1 - 1 by omega)
      clear hby hu0 hu1 hu2 hu3 d0 d1 d2 d3 hop hxo
      obtain ⟨x0, x1, x2, x3, x4, x5, x6⟩ := x
      simp only [O.cells] at HOF
      have HNEW := Lib.hid hnew
      clear hnew
      gi_wp2
      refine wpIn_region_any (by kernel_rfl) ?_
      change wpAnyIn _ _ _ _ _ _ _ _ _ (World.drew _)
      have HID := Lib.hid HI.out.drew
      refine wpAnyIn_ready (rs := [0, 1]) (by kernel_rfl) (by simp) ?_
      refine AllReadyIn.cons rfl (fun K hK => ?_) (AllReadyIn.cons rfl (fun K hK => ?_) AllReadyIn.nil)
      · go_simp
        refine hK _ _ ?_
        clear hK K
        refine wpAnyIn_ready (rs := [1]) (by kernel_rfl) (by simp) ?_
        refine AllReadyIn.cons rfl (fun K hK => ?_) AllReadyIn.nil
        go_simp
        refine hK _ _ ?_
        clear hK K
        refine wpAnyIn_ready (rs := [2]) (by kernel_rfl) (by simp) ?_
        refine AllReadyIn.cons rfl (fun K hK => ?_) AllReadyIn.nil
        go_simp
        refine ⟨trivial, fun _ => HN3.out, (HOF.out _ HID.out.b).mono ?_⟩
        rintro e V ⟨rfl, hb3⟩
        have hVb : Below W.heap.size W V := bl_step (Below.refl _ W).drew (Nat.le_refl _) hb3
        have hcV := (HI.out.below hVb).bx.cell 0
        simp only [List.getElem?_toArray, List.getElem?_cons_zero] at hcV
        have hsV := (HI.out.below hVb).s
        have hlV := (HI.out.below hVb).bx.lt
        have hoV := (HI.out.below hVb).o
        refine hK _ _ ?_
        clear hK K
        refine wpAnyIn_ready (rs := [3]) (by kernel_rfl) (by simp) ?_
        refine AllReadyIn.cons rfl (fun K hK => ?_) AllReadyIn.nil
        go_simp
        refine hK _ _ ?_
        clear hK K
        refine wpAnyIn_ready (rs := [4]) (by kernel_rfl) (by simp) ?_
        refine AllReadyIn.cons rfl (fun K hK => ?_) AllReadyIn.nil
        refine stepIn_append_own _ rfl _ _ 37 rfl (w.heap.size + 3) 24 i0 _ 7 64 Tryd.underlying37 hi hz0 hz1 hz2 rfl (by decide) _ acc.length _ rfl (hoV.alloc _) ⟨V.heap.size, 0, none⟩ 1 1 [.int .i64 x0, .int .i64 x1, .int .i64 x2, .int .i64 x3, .int .i64 x4, .int .u32 x5, .string x6] rfl rfl (cells_new _ _ _) (by simp [Value.oneCell']) (by unfold maxLen; omega) (by omega) (by simp; omega) ?_
        intro v' w7 hown7 hgrow7
        obtain ⟨g7, c7, rfl⟩ := ownsRow_succ hown7
        obtain ⟨m1, m2, m3, m4, m5, m6⟩ := HI.out.more (x := ⟨x0, x1, x2, x3, x4, x5, x6⟩) hVb hown7 hgrow7
        have HM1 := Lib.hid m1
        have HM5 := Lib.hid m5
        have HM6 := Lib.hid m6
        clear m1 m5 m6 hgrow7 hown7 hoV
        refine hK _ _ ?_
        clear hK K
        refine wpAnyIn_ready (rs := [5]) (by kernel_rfl) (by simp) ?_
        refine AllReadyIn.cons rfl (fun K hK => ?_) AllReadyIn.nil
        go_simp
        refine hK _ _ ?_
        clear hK K
        refine wpAnyIn_done (by kernel_rfl) ?_ _
        gi_wp2
        exact ⟨HM5.out.from _, HM6.out, _, by rw [HNEW.out]; exact HM1.out⟩
      · go_simp
        refine hK _ _ ?_
        clear hK K
        refine wpAnyIn_ready (rs := [0, 2]) (by kernel_rfl) (by simp) ?_
        refine AllReadyIn.cons rfl (fun K hK => ?_) (AllReadyIn.cons rfl (fun K hK => ?_) AllReadyIn.nil)
        · go_simp
          refine hK _ _ ?_
          clear hK K
          refine wpAnyIn_ready (rs := [2]) (by kernel_rfl) (by simp) ?_
          refine AllReadyIn.cons rfl (fun K hK => ?_) AllReadyIn.nil
          go_simp
          refine ⟨trivial, fun _ => HN3.out, (HOF.out _ HID.out.b).mono ?_⟩
          rintro e V ⟨rfl, hb3⟩
          have hVb : Below W.heap.size W V := bl_step (Below.refl _ W).drew (Nat.le_refl _) hb3
          have hcV := (HI.out.below hVb).bx.cell 0
          simp only [List.getElem?_toArray, List.getElem?_cons_zero] at hcV
          have hsV := (HI.out.below hVb).s
          have hlV := (HI.out.below hVb).bx.lt
          have hoV := (HI.out.below hVb).o
          refine hK _ _ ?_
          clear hK K
          refine wpAnyIn_ready (rs := [3]) (by kernel_rfl) (by simp) ?_
          refine AllReadyIn.cons rfl (fun K hK => ?_) AllReadyIn.nil
          go_simp
          refine hK _ _ ?_
          clear hK K
          refine wpAnyIn_ready (rs := [4]) (by kernel_rfl) (by simp) ?_
          refine AllReadyIn.cons rfl (fun K hK => ?_) AllReadyIn.nil
          refine stepIn_append_own _ rfl _ _ 37 rfl (w.heap.size + 3) 24 i0 _ 7 64 Tryd.underlying37 hi hz0 hz1 hz2 rfl (by decide) _ acc.length _ rfl (hoV.alloc _) ⟨V.heap.size, 0, none⟩ 1 1 [.int .i64 x0, .int .i64 x1, .int .i64 x2, .int .i64 x3, .int .i64 x4, .int .u32 x5, .string x6] rfl rfl (cells_new _ _ _) (by simp [Value.oneCell']) (by unfold maxLen; omega) (by omega) (by simp; omega) ?_
          intro v' w7 hown7 hgrow7
          obtain ⟨g7, c7, rfl⟩ := ownsRow_succ hown7
          obtain ⟨m1, m2, m3, m4, m5, m6⟩ := HI.out.more (x := ⟨x0, x1, x2, x3, x4, x5, x6⟩) hVb hown7 hgrow7
          have HM1 := Lib.hid m1
          have HM5 := Lib.hid m5
          have HM6 := Lib.hid m6
          clear m1 m5 m6 hgrow7 hown7 hoV
          refine hK _ _ ?_
          clear hK K
          refine wpAnyIn_ready (rs := [5]) (by kernel_rfl) (by simp) ?_
          refine AllReadyIn.cons rfl (fun K hK => ?_) AllReadyIn.nil
          go_simp
          refine hK _ _ ?_
          clear hK K
          refine wpAnyIn_done (by kernel_rfl) ?_ _
          gi_wp2
          exact ⟨HM5.out.from _, HM6.out, _, by rw [HNEW.out]; exact HM1.out⟩
        · go_simp
          refine ⟨trivial, fun _ => HN3.out, (HOF.out _ HID.out.b).mono ?_⟩
          rintro e V ⟨rfl, hb3⟩
          have hVb : Below W.heap.size W V := bl_step (Below.refl _ W).drew (Nat.le_refl _) hb3
          have hcV := (HI.out.below hVb).bx.cell 0
          simp only [List.getElem?_toArray, List.getElem?_cons_zero] at hcV
          have hsV := (HI.out.below hVb).s
          have hlV := (HI.out.below hVb).bx.lt
          have hoV := (HI.out.below hVb).o
          refine hK _ _ ?_
          clear hK K
          refine wpAnyIn_ready (rs := [0, 3]) (by kernel_rfl) (by simp) ?_
          refine AllReadyIn.cons rfl (fun K hK => ?_) (AllReadyIn.cons rfl (fun K hK => ?_) AllReadyIn.nil)
          · go_simp
            refine hK _ _ ?_
            clear hK K
            refine wpAnyIn_ready (rs := [3]) (by kernel_rfl) (by simp) ?_
            refine AllReadyIn.cons rfl (fun K hK => ?_) AllReadyIn.nil
            go_simp
            refine hK _ _ ?_
            clear hK K
            refine wpAnyIn_ready (rs := [4]) (by kernel_rfl) (by simp) ?_
            refine AllReadyIn.cons rfl (fun K hK => ?_) AllReadyIn.nil
            refine stepIn_append_own _ rfl _ _ 37 rfl (w.heap.size + 3) 24 i0 _ 7 64 Tryd.underlying37 hi hz0 hz1 hz2 rfl (by decide) _ acc.length _ rfl (hoV.alloc _) ⟨V.heap.size, 0, none⟩ 1 1 [.int .i64 x0, .int .i64 x1, .int .i64 x2, .int .i64 x3, .int .i64 x4, .int .u32 x5, .string x6] rfl rfl (cells_new _ _ _) (by simp [Value.oneCell']) (by unfold maxLen; omega) (by omega) (by simp; omega) ?_
            intro v' w7 hown7 hgrow7
            obtain ⟨g7, c7, rfl⟩ := ownsRow_succ hown7
            obtain ⟨m1, m2, m3, m4, m5, m6⟩ := HI.out.more (x := ⟨x0, x1, x2, x3, x4, x5, x6⟩) hVb hown7 hgrow7
            have HM1 := Lib.hid m1
            have HM5 := Lib.hid m5
            have HM6 := Lib.hid m6
            clear m1 m5 m6 hgrow7 hown7 hoV
            refine hK _ _ ?_
            clear hK K
            refine wpAnyIn_ready (rs := [5]) (by kernel_rfl) (by simp) ?_
            refine AllReadyIn.cons rfl (fun K hK => ?_) AllReadyIn.nil
            go_simp
            refine hK _ _ ?_
            clear hK K
            refine wpAnyIn_done (by kernel_rfl) ?_ _
            gi_wp2
            exact ⟨HM5.out.from _, HM6.out, _, by rw [HNEW.out]; exact HM1.out⟩
          · go_simp
            refine hK _ _ ?_
            clear hK K
            refine wpAnyIn_ready (rs := [0]) (by kernel_rfl) (by simp) ?_
            refine AllReadyIn.cons rfl (fun K hK => ?_) AllReadyIn.nil
            go_simp
            refine hK _ _ ?_
            clear hK K
            refine wpAnyIn_ready (rs := [4]) (by kernel_rfl) (by simp) ?_
            refine AllReadyIn.cons rfl (fun K hK => ?_) AllReadyIn.nil
            refine stepIn_append_own _ rfl _ _ 37 rfl (w.heap.size + 3) 24 i0 _ 7 64 Tryd.underlying37 hi hz0 hz1 hz2 rfl (by decide) _ acc.length _ rfl (hoV.alloc _) ⟨V.heap.size, 0, none⟩ 1 1 [.int .i64 x0, .int .i64 x1, .int .i64 x2, .int .i64 x3, .int .i64 x4, .int .u32 x5, .string x6] rfl rfl (cells_new _ _ _) (by simp [Value.oneCell']) (by unfold maxLen; omega) (by omega) (by simp; omega) ?_
            intro v' w7 hown7 hgrow7
            obtain ⟨g7, c7, rfl⟩ := ownsRow_succ hown7
            obtain ⟨m1, m2, m3, m4, m5, m6⟩ := HI.out.more (x := ⟨x0, x1, x2, x3, x4, x5, x6⟩) hVb hown7 hgrow7
            have HM1 := Lib.hid m1
            have HM5 := Lib.hid m5
            have HM6 := Lib.hid m6
            clear m1 m5 m6 hgrow7 hown7 hoV
            refine hK _ _ ?_
            clear hK K
            refine wpAnyIn_ready (rs := [5]) (by kernel_rfl) (by simp) ?_
            refine AllReadyIn.cons rfl (fun K hK => ?_) AllReadyIn.nil
            go_simp
            refine hK _ _ ?_
            clear hK K
            refine wpAnyIn_done (by kernel_rfl) ?_ _
            gi_wp2
            exact ⟨HM5.out.from _, HM6.out, _, by rw [HNEW.out]; exact HM1.out⟩
    · have h4 : ¬ (cl : Int) = 4 := by rw [hcl]; unfold chunkLen; omega
      have h4b : ((cl : Int) == 4) = false := beq_eq_false_iff_ne.2 h4
      clear hcl
      gi_wp2
      have e : ofC bs ((pre ++ [(⟨k, hk⟩ : Fin (chunks bs.length))]).map Fin.val) = acc := by
        rw [List.map_append]
        show ofC bs (_ ++ [k]) = _
        rw [ofC_snoc, if_neg hfull, List.append_nil, HACC.out]
      exact ⟨KeepsFrom.refl _ _, ⟨Below.refl _ _, rfl, rfl⟩, .slice E acc.length ce, by rw [e]; exact HI.out⟩
  case done =>
    rintro D ys W hD rfl ⟨v, hI⟩ hK
    rw [ofC_all] at hI
    have hc := hI.bx.cell 0
    simp only [List.getElem?_toArray, List.getElem?_cons_zero] at hc
    have HI := Lib.hid hI
    have HK := Lib.hid hK
    clear hI hK hI0
    dsimp only
    gi_wp2
    refine ⟨by simp, .inl ⟨_, _, rfl, run_takeDeferred HK.out, ?_⟩⟩
    exact ⟨_, results_tmp rfl _ _ _, v, rfl, ownsRow_putObj (own_lower HI.out.o (by omega)) _ HK.out rfl, HI.out.b.trans (belowK_b (w := w) (Nat.le_refl _) W D _ _ (by omega) HK.out rfl rfl)⟩
  case stop =>
    rintro D c pre W _ _ h _
    exact h.elim

theorem ofs_any {w : World} (A : Option Addr) (bs : List UInt8) (ca : Nat) (hbl : bs.length ≤ 6000) (hcap : bs.length ≤ ca) (hcm : ca ≤ 9223372036854775807) (hx : BytesAt w A bs) :
    Calls Tryd.prog 24 #[.slice A bs.length ca] w fun e w' => ∃ v, e = .returned v ∧ OwnO w' w.heap.size v (ofL bs) ∧ Below w.heap.size w w' := callsIn_wide.1 (ofs_in 12 (by omega) A bs ca hbl hcap hcm hx)

/-! ## what bytes say may be -/
theorem byteN_lt (l : List UInt8) (i : Nat) : byteN l i < 256 := UInt8.toNat_lt _
theorem nmB_ok (b1 : Nat) : nameB (nmB b1).data.toList = true := by
  have h4 : b1 % 4 = 0 ∨ b1 % 4 = 1 ∨ b1 % 4 = 2 ∨ b1 % 4 = 3 := by omega
  unfold nmB
  rcases h4 with h | h | h | h <;> rw [h] <;> decide
theorem kind4_cases (b0 : Nat) : kindOf4 b0 = 1 ∨ kindOf4 b0 = 2 ∨ kindOf4 b0 = 3 ∨ kindOf4 b0 = 4 ∨ kindOf4 b0 = 5 ∨ kindOf4 b0 = 6 ∨ kindOf4 b0 = 7 ∨ kindOf4 b0 = 8 ∨ kindOf4 b0 = 9 ∨ kindOf4 b0 = 10 ∨ kindOf4 b0 = 11 ∨ kindOf4 b0 = 12 := by unfold kindOf4; omega
theorem ofO_cases (b0 b1 b2 b3 : Nat) : ofO b0 b1 b2 b3 = (match kindOf4 b0 with
    | 1 => ⟨1, ((b1 % 8 : Nat) : Int), b2, 0, 0, 0, ⟨#[]⟩⟩
    | 2 => ⟨2, ((b1 % 8 : Nat) : Int), 0, ((b2 % 8 : Nat) : Int) + 1, 0, 0, ⟨#[]⟩⟩
    | 4 => ⟨4, ((b1 % 8 : Nat) : Int), 0, 0, 0, 0, ⟨#[]⟩⟩
    | 5 => ⟨5, 0, 0, ((b2 % 8 : Nat) : Int) + 1, ((b3 % 15 : Nat) : Int) + 1, 0, ⟨#[]⟩⟩
    | 6 => ⟨6, 0, 0, ((b2 % 8 : Nat) : Int) + 1, 0, 0, nmB b1⟩
    | 7 => ⟨7, 0, 0, ((b2 % 8 : Nat) : Int) + 1, 0, 0, ⟨#[]⟩⟩
    | 8 => ⟨8, 0, 0, 0, 0, b3, nmB b1⟩
    | 9 => ⟨9, 0, 0, ((b2 % 8 : Nat) : Int) + 1, 0, b3, ⟨#[]⟩⟩
    | k => ⟨k, 0, 0, 0, 0, 0, ⟨#[]⟩⟩) := by
  unfold ofO
  rcases kind4_cases b0 with h | h | h | h | h | h | h | h | h | h | h | h <;> rw [h] <;> rfl
end Go.Proofs.YtgefnicpkfcghaaDoor
