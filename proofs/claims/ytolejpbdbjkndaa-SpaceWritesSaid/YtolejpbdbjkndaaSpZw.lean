/-
  The law SpaceWrites, walked. Condition: the calls and the bytes lie in memory.
-/
import Derived.Laws.AppendOwn
import Derived.Deep.CutRange
import Derived.Great.BuildSlice
import Derived.Test.YtolejpbdbjkndaaSpZ
namespace Go.Proofs.Ytolejpbdbjkndaa
open Go.RowKit Go.Shelf Go.Deep
set_option linter.unusedVariables false
set_option linter.unusedSimpArgs false
attribute [local go_sem] Oper.semAt_some

/-- The spaces' pointers. -/
def ptrsL (sb : Nat → Nat) (s : Nat) : List Value := (List.range s).map fun i => .pointer (some ⟨sb i, 0, none⟩)
theorem ptrsL_len (sb : Nat → Nat) (s : Nat) : (ptrsL sb s).length = s := by unfold ptrsL; rw [List.length_map, List.length_range]
theorem ptrsL_get (sb : Nat → Nat) {s i : Nat} (h : i < s) : (ptrsL sb s)[i]? = some (.pointer (some ⟨sb i, 0, none⟩)) := by
  unfold ptrsL
  rw [List.getElem?_map, List.getElem?_range h]; rfl
theorem ptrsL_more (sb : Nat → Nat) (s so : Nat) : ptrsL sb s ++ [.pointer (some ⟨so, 0, none⟩)] = ptrsL (updQ sb s so) (s + 1) := by
  unfold ptrsL
  rw [List.range_succ, List.map_append]
  congr 1
  · refine List.map_congr_left fun i hi => ?_
    have := List.mem_range.1 hi
    rw [updQ_other _ _ (by omega)]
  · rw [List.map_singleton, updQ_same]
theorem infoP : (Try.prog.info? 29).map (fun i => (i.zero, i.size, i.bytes)) = some (some (.pointer none), 1, 8) := by kernel_rfl
theorem infoS64 : (Try.prog.info? 41).map (fun i => (i.zero, i.size, i.bytes)) = some (some (.agg (List.replicate 64 (Value.string ByteArray.empty)).toArray), 64, 1024) := by kernel_rfl
/-- The pages of the first j spaces. -/
def wasL (F : Fs) (ms : Nat → M) (j : Nat) : List Value := (List.range j).flatMap fun i => pgL F (ms i) 64
theorem wasL_succ (F : Fs) (ms : Nat → M) (j : Nat) : wasL F ms (j + 1) = wasL F ms j ++ pgL F (ms j) 64 := by
  unfold wasL
  rw [List.range_succ, List.flatMap_append]
  simp
theorem foldl_setAll : ∀ (l : List Value) (k : Nat) (c : Array Value), (l.zipIdx k).foldl (fun cs x => cs.setIfInBounds x.2 x.1) c = setAll c k l
  | [], _, _ => rfl
  | x :: l, k, c => by
    rw [List.zipIdx_cons, List.foldl_cons, foldl_setAll l (k + 1)]; rfl
theorem fill_pg {vl : List Value} (hl : vl.length = 64) (z : Array Value) (hz : z.size = 64) : Instr.fill (fun i => some (i * 64, 64)) z [(0, .agg vl.toArray)] = some vl.toArray := by
  have hs : setAll z 0 vl = vl.toArray := by
    have h := setAll_whole vl [] z.toList (by rw [Array.length_toList, hz, hl])
    rw [List.nil_append, List.nil_append] at h
    exact h
  simp [Instr.fill, Value.cells, hl, hz, foldl_setAll, hs]
/-- Spaces, and the slice of their pointers. -/
structure SW (w W : World) (fb s g cp lb cap : Nat) (F : Fs) (sb bt : Nat → Nat) (q : Nat → Nat → Option Nat) (ms : Nat → M) : Prop where
  a : AS w W fb lb cap F s sb bt q ms
  r : W.ownsRow w.heap.size 29 1 (.slice (some ⟨g, 0, none⟩) s cp) s (ptrsL sb s)
  s : 1 ≤ s ∧ s ≤ 4
def SWx (w W : World) (fb s g cp : Nat) : Prop := ∃ lb cap F sb bt q ms, SW w W fb s g cp lb cap F sb bt q ms
section
variable {w W W' : World} {fb s g cp lb cap : Nat} {F : Fs} {sb bt : Nat → Nat} {q : Nat → Nat → Option Nat} {ms : Nat → M}
theorem SW.below (h : SW w W fb s g cp lb cap F sb bt q ms) (hb : Below W.heap.size W W') : SW w W' fb s g cp lb cap F sb bt q ms := ⟨h.a.below hb, ownsRow_below h.r hb, h.s⟩
theorem SWx.below (h : SWx w W fb s g cp) (hb : Below W.heap.size W W') : SWx w W' fb s g cp := by
  obtain ⟨lb, cap, F, sb, bt, q, ms, h⟩ := h
  exact ⟨lb, cap, F, sb, bt, q, ms, h.below hb⟩
theorem SW.blk (h : SW w W fb s g cp lb cap F sb bt q ms) : w.heap.size ≤ g ∧ ∃ cur, Blk W g 29 cur ∧ s ≤ cp ∧ ∀ i, i < s → cur[i]? = some (.pointer (some ⟨sb i, 0, none⟩)) := by
  have hs := h.s
  rcases h.r.2 with ⟨h0, _⟩ | ⟨g', cap', cur, e, hb, hg, h4, _, _, ht⟩
  · cases h0
  · injection e with e1 e2 e3
    injection e1 with e1
    injection e1 with e1 _ _
    subst e1 e3
    refine ⟨hb, cur, hg, h4, fun i hi => ?_⟩
    have h1 := ptrsL_get sb hi
    rw [← ht, List.getElem?_take, if_pos (by omega)] at h1
    simpa using h1
theorem SW.ptrs (h : SW w W fb s g cp lb cap F sb bt q ms) : PtrsAt W g s sb := by
  obtain ⟨_, cur, hb, _, hc⟩ := h.blk
  exact ⟨hb.lt, fun i hi => (hb.cell i).trans (hc i hi)⟩
theorem SW.lo (h : SW w W fb s g cp lb cap F sb bt q ms) : Below w.heap.size w W := h.a.lo
theorem SWx.lo (h : SWx w W fb s g cp) : Below w.heap.size w W := by
  obtain ⟨_, _, _, _, _, _, _, h⟩ := h
  exact h.a.lo
/-- A pointer is read wherever blocks of this type lie. -/
theorem SW.ptr (h : SW w W fb s g cp lb cap F sb bt q ms) {i : Nat} (hi : i < s) (hk : KeepT W W') : W'.cell? ⟨g, i, none⟩ = some (.pointer (some ⟨sb i, 0, none⟩)) := by
  obtain ⟨_, cur, hb, _, hc⟩ := h.blk
  have hb' := hk.2 g _ _ (by decide) (by decide) (by decide) hb
  rw [hb'.cell]
  exact hc i hi
theorem SWx.counts (h : SWx w W fb s g cp) : Calls Try.prog 24 #[.pointer (some ⟨fb, 0, none⟩), .slice (some ⟨g, 0, none⟩) s cp] W fun e W' => e = .returned (.bool true) ∧ Below W.heap.size W W' := by
  obtain ⟨lb, cap, F, sb, bt, q, ms, h⟩ := h
  exact counts_any h.a h.s.2 h.ptrs cp
end
theorem row_blockG {w : World} {base : Nat} {e : TypeId} {sz : Nat} {v : Value} {n : Nat} {xs : List Value} (h : w.ownsRow base e sz v n xs) {r : Nat} (hr : v.ownBlock = some r) : base ≤ r ∧ ∃ cur, Blk w r e cur := by
  rcases h.2 with ⟨h1, h2⟩ | ⟨g, cap, cur, rfl, hb, hg, _⟩
  · subst h1
    simp [Value.ownBlock] at hr
  · obtain rfl : g = r := by simpa [Value.ownBlock] using hr
    exact ⟨hb, cur, hg⟩
theorem SW.grown {w W W' : World} {fb s g cp lb cap : Nat} {F : Fs} {sb bt : Nat → Nat} {q : Nat → Nat → Option Nat} {ms : Nat → M} (h : SW w W fb s g cp lb cap F sb bt q ms) {row : Option Nat} (hg : W.grownBy W' row) (hr : ∀ k, row = some k → w.heap.size ≤ k ∧ ∃ cur, Blk W k 41 cur) : SW w W' fb s g cp lb cap F sb bt q ms := by
  refine ⟨h.a.but (But.of_grown hg) (fun k hk => ?_), h.r.kept hg (.inr (fun e => ?_)), h.s⟩
  · obtain ⟨h1, cur, h2⟩ := hr k hk
    exact ⟨h1, _, cur, h2, by decide, by decide, by decide, by decide, by decide⟩
  · obtain ⟨_, cur, h2⟩ := hr g (by rw [← e]; rfl)
    obtain ⟨_, cur2, h3, _⟩ := h.blk
    exact h3.ne_ h2 (by decide) rfl
theorem was_cell {w : World} {base gw s cw : Nat} {F : Fs} {ms : Nat → M} (h : w.ownsRow base 41 64 (.slice (some ⟨gw, 0, none⟩) s cw) s (wasL F ms s)) {i p : Nat} (hi : i < s) (hp : p < 64) : ∃ cur, Blk w gw 41 cur ∧ cur[i * 64 + p]? = some (.string (strOfNums (pageP F (ms i) p))) := by
  rcases h.2 with ⟨h0, _⟩ | ⟨g', cap', cur, e, _, hg, _, _, _, ht⟩
  · cases h0
  · injection e with e1 _ _
    injection e1 with e1
    injection e1 with e1 _ _
    subst e1
    refine ⟨cur, hg, ?_⟩
    have hw : (wasL F ms s)[i * 64 + p]? = some (.string (strOfNums (pageP F (ms i) p))) := by
      unfold wasL
      rw [List.flatMap_def, flat_get (k := 64) _ i p (pgL F (ms i) 64) (fun r hr => by rw [List.mem_map] at hr; obtain ⟨y, _, rfl⟩ := hr; exact pgL_len _ _ _) hp (by rw [List.getElem?_map, List.getElem?_range hi]; rfl)]
      unfold pgL
      rw [List.getElem?_map, List.getElem?_range hp]
      show some (if p < 64 then Value.string _ else Value.string _) = _
      rw [if_pos hp]
    rw [← ht, List.getElem?_take] at hw
    split at hw
    · simpa using hw
    · cases hw
/-- Bytes that came in as a string. -/
theorem conv_bytesA {w : World} {A : Option Addr} {c : Nat} {bs : List Int} (h : BytesA w A c bs) : (convert 33 9 (.slice A bs.length c)).run Try.prog w = .ok (.string (strOfNums bs)) w := by
  cases hb : bs with
  | nil =>
    show (convert 33 9 (.slice A 0 c)).run Try.prog w = .ok (.string ByteArray.empty) w
    rw [run_convert_bytes_string w _ _ 5 _ 0 c Try.underlying33 Try.underlying5 Try.underlying9]
    cases A with
    | none => simp [Conv.bytesToString]
    | some a => rw [run_bytesToString w a 0 c [] (by rfl)]; rfl
  | cons x l =>
    rw [← hb]
    obtain ⟨g, o, rfl, _, hc⟩ := h.src (by rw [hb]; exact Nat.succ_pos _)
    refine run_convert_bytes_arg w _ 5 Try.underlying33 Try.underlying5 g o _ c bs rfl (fun i hi => ?_) _ Try.underlying9
    refine hc i _ ?_
    rw [List.getElem?_map, List.getD_eq_getElem?_getD, List.getElem?_eq_getElem hi]; rfl
def zOp : Array Value := #[.int .i64 0, .int .i64 0, .int .i64 0, .int .i64 0, .bool false, .bool false, .int .u32 0, .int .u32 0, .slice none 0 0, .int .i64 0, .bool false, .bool false, .bool false, .bool false]
theorem zeroOp (w : World) : (zeroValue 37).run Try.prog w = .ok (.agg zOp) w := by kernel_rfl
theorem run_storeCells_op (x : OpR) (w : World) : (storeCells ⟨w.heap.size, 0, none⟩ x.cells).run Try.prog (w.alloc (.cells zOp 37)) = .ok () (w.alloc (.cells x.cells.toArray 37)) :=
  run_storeCells_new (P := Try.prog) w 37 zOp x.cells.toArray (by show _ = some 14; kernel_rfl) rfl (by simp [OpR.cells, Value.oneCell'])
theorem op_range {w : World} {A : Option Addr} {l : List OpR} (h : OpsA w A l) {i : Nat} {o : OpR} (ho : l[i]? = some o) : ∃ b off, A = some ⟨b, off, none⟩ ∧ b < w.heap.size ∧ ∀ W, Below w.heap.size w W → W.rangeAt b (off + i * 14) o.cells := by
  obtain ⟨b, off, hA, hlt, hc⟩ := h.1 i o.cells (by rw [List.getElem?_map, ho]; rfl)
  exact ⟨b, off, hA, hlt, fun W hb j v hv => (hb.cell hlt).trans (hc j v hv)⟩
/-- Which space a number says. -/
theorem who_in (x : Int) {s : Nat} (hs : 1 ≤ s) : ∃ k : Nat, (x.tmod (s : Int) + (s : Int)).tmod (s : Int) = (k : Int) ∧ k < s := by
  have h1 : -(s : Int) < x.tmod (s : Int) := by
    have := Int.lt_tmod_of_pos x (show (0 : Int) < s by omega)
    omega
  have h3 : 0 ≤ x.tmod (s : Int) + (s : Int) := by omega
  have h4 := Int.tmod_nonneg (s : Int) h3
  have h5 := Int.tmod_lt_of_pos (x.tmod (s : Int) + (s : Int)) (show (0 : Int) < s by omega)
  obtain ⟨k, hk⟩ := Int.eq_ofNat_of_zero_le h4
  exact ⟨k, hk, by omega⟩
theorem who_bound (x : Int) {s : Nat} (hs : 1 ≤ s ∧ s ≤ 4) : -4 < x.tmod (s : Int) ∧ x.tmod (s : Int) < 4 := by
  have h1 := Int.lt_tmod_of_pos x (show (0 : Int) < s by omega)
  have h2 := Int.tmod_lt_of_pos x (show (0 : Int) < s by omega)
  omega

set_option maxRecDepth 100000 in
set_option maxHeartbeats 16000000 in
theorem writesWalk {w : World} (many : Int) (A : Option Addr) (c : Nat) (l : List OpR) (hO : OpsA w A l) (hl : l.length ≤ maxLen) (who : Int) (hwho : -9223372036854775808 ≤ who ∧ who ≤ 9223372036854775807) (addr : Int) (haddr : 0 ≤ addr ∧ addr ≤ 4294967295) (A4 : Option Addr) (c4 : Nat) (bs : List Int) (hb4 : BytesA w A4 c4 bs) (hl4 : bs.length ≤ maxLen) :
    Calls Try.prog 5 #[.int .i64 many, .slice A l.length c, .int .i64 who, .int .u32 addr, .slice A4 bs.length c4] w fun e w' => e = .returned (.bool true) ∧ Below w.heap.size w w' := by
  have hml : maxLen ≤ 9223372036854775807 := by decide
  obtain ⟨a, rfl⟩ := Int.eq_ofNat_of_zero_le haddr.1
  have HO := Lib.hid hO
  have HGL := Lib.hid hl
  have HB4 := Lib.hid hb4
  clear hO hb4
  go_enter Try.func5, Try.ntmps5
  go_wp2_with (fail)
  refine alive_any.mono ?_
  rintro e W1 ⟨rfl, hb1⟩
  have HB1 := Lib.hid hb1
  clear hb1
  by_cases hmany : 1 ≤ many ∧ many ≤ 256
  case neg =>
    have HMB := Lib.hid (frNew_bad (w := W1) many (by omega))
    clear hmany
    go_wp2_with (fail)
    refine HMB.out.mono ?_
    rintro e _ ⟨rfl, rfl⟩
    go_wp2_with (fail)
    refine (great_any c (HO.out.below HB1.out) HGL.out 40).mono ?_
    rintro e _ ⟨r, rfl, hr, rfl⟩
    clear hr
    by_cases h0 : 0 < r
    · go_wp2
      go_ret
      exact ⟨rfl, HB1.out⟩
    by_cases h1 : 300 < (bs.length : Int)
    · go_wp2
      go_ret
      exact ⟨rfl, HB1.out⟩
    by_cases h40 : 40 < many
    · go_wp2
      go_ret
      exact ⟨rfl, HB1.out⟩
    · go_wp2
      go_ret
      exact ⟨rfl, HB1.out⟩
  obtain ⟨N, rfl⟩ := Int.eq_ofNat_of_zero_le (show 0 ≤ many by omega)
  have hN1 : 1 ≤ N ∧ N ≤ 256 := by omega
  clear hmany
  go_wp2_with (fail)
  refine (asFrames N hN1).mono ?_
  rintro e W2 ⟨fb, lb, rfl, hf, hb2, g1, g2⟩
  have HF2 := Lib.hid hf
  have HB2 := Lib.hid (bl_step HB1.out hb2)
  have HG := Lib.hid (show w.heap.size ≤ fb ∧ w.heap.size ≤ lb from ⟨Nat.le_trans HB1.out.size g1, Nat.le_trans HB1.out.size g2⟩)
  clear hf hb2 g1 g2
  go_wp2_with (fail)
  refine (great_any c (HO.out.below HB2.out) HGL.out 40).mono ?_
  rintro e _ ⟨r, rfl, hr, rfl⟩
  by_cases h0 : 0 < r
  case pos =>
    clear hr
    go_wp2
    go_ret
    exact ⟨rfl, HB2.out⟩
  have HGR := Lib.hid (greatL_no (show greatL l 40 = false from by
    cases hg : greatL l 40
    · rfl
    · exact absurd (hr.2 hg) h0))
  clear hr
  by_cases h1 : 300 < (bs.length : Int)
  case pos =>
    go_wp2
    go_ret
    exact ⟨rfl, HB2.out⟩
  by_cases h40 : 40 < (N : Int)
  case pos =>
    go_wp2
    go_ret
    exact ⟨rfl, HB2.out⟩
  go_wp2_with (fail)
  refine (asSpace HF2.out hN1 HB2.out HG.out.1 HG.out.2).mono ?_
  rintro e W3 ⟨so, bo, rfl, hA, _⟩
  have hge := (hA.ge.2.2 0 (by decide)).1
  have HST := Lib.hid (show SWx w (W3.alloc (.cells #[.pointer (some ⟨so, 0, none⟩)] 29)) fb 1 W3.heap.size 1 from
    ⟨_, _, _, _, _, _, _, hA.below (bl_new (Below.refl W3.heap.size W3) _), ⟨rfl, .inr ⟨W3.heap.size, 1, #[.pointer (some ⟨so, 0, none⟩)], rfl, hA.lo.size, Blk.new W3 _ _, Nat.le_refl _, by decide, rfl, rfl⟩⟩, by decide⟩)
  clear hA HF2 HB2 HG HB1 hN1 h40 h0 hge
  go_wp2_with (fail)
  obtain ⟨g, hg⟩ : ∃ g, g = W3.heap.size := ⟨_, rfl⟩
  rw [← hg] at HST ⊢
  generalize W3.alloc (.cells #[.pointer (some ⟨so, 0, none⟩)] 29) = W4 at *
  clear hg
  go_loopw [14, 15] (fun sl i wr => ∃ k s g cp : Nat, i = .int .i64 (k : Int) ∧ k ≤ l.length ∧ sl = .slice (some ⟨g, 0, none⟩) s cp ∧ Hid (SWx w wr fb s g cp)) (fun _ i _ => l.length - (intOf i).toNat)
  case atStart => exact ⟨0, 1, g, 1, rfl, Nat.zero_le _, rfl, HST⟩
  case round =>
    clear HST
    obtain ⟨k, s, g, cp, rfl, hk, rfl, HK⟩ := hrel
    by_cases hkl : k < l.length
    case pos =>
      have hki : (k : Int) < (l.length : Int) := by omega
      have hxe : l[k]? = some l[k] := List.getElem?_eq_getElem hkl
      have hmem : l[k] ∈ l := List.getElem_mem hkl
      obtain ⟨b, off, rfl, hlt, hrg⟩ := op_range HO.out hxe
      have HX := Lib.hid (HO.out.2 _ hmem)
      have HX3 := Lib.hid (HGR.out.2 _ hmem)
      generalize l[k] = x at *
      obtain ⟨xk, xwho, xp, xn, xwr, xsh, xa, xwd, xA, xc, xbs, xx⟩ := x
      simp only at HX HX3
      obtain ⟨xl, hxl⟩ : ∃ xl, xl = (⟨xk, xwho, xp, xn, xwr, xsh, xa, xwd, xA, xc, xbs, xx⟩ : OpR).cells := ⟨_, rfl⟩
      have hst := run_storeCells_op ⟨xk, xwho, xp, xn, xwr, xsh, xa, xwd, xA, xc, xbs, xx⟩ wr
      have hz := zeroOp wr
      have HRG := Lib.hid (hrg wr HK.out.lo)
      have HXC := Lib.hid (fun (W' : World) (xb : Nat) (hB : Blk W' xb 37 xl.toArray) => (show W'.cell? ⟨xb, 0, none⟩ = some (.int .i64 xk) ∧ W'.cell? ⟨xb, 1, none⟩ = some (.int .i64 xwho) ∧ W'.cell? ⟨xb, 2, none⟩ = some (.int .i64 xp) ∧ W'.cell? ⟨xb, 3, none⟩ = some (.int .i64 xn) ∧ W'.cell? ⟨xb, 4, none⟩ = some (.bool xwr) ∧ W'.cell? ⟨xb, 5, none⟩ = some (.bool xsh) ∧ W'.cell? ⟨xb, 6, none⟩ = some (.int .u32 xa) ∧ W'.cell? ⟨xb, 8, none⟩ = some (.slice xA xbs.length xc) from by
        subst hxl
        exact ⟨(hB.cell 0).trans rfl, (hB.cell 1).trans rfl, (hB.cell 2).trans rfl, (hB.cell 3).trans rfl, (hB.cell 4).trans rfl, (hB.cell 5).trans rfl, (hB.cell 6).trans rfl, (hB.cell 8).trans rfl⟩))
      have HSZ := Lib.hid (show (Try.prog.info? 37).map (·.size) = some xl.length from by rw [hxl]; kernel_rfl)
      rw [← hxl] at hst HRG
      have hxln : xl.length = 14 := by rw [hxl]; rfl
      have HBX := Lib.hid (Blk.new wr 37 xl.toArray)
      have HK5 := Lib.hid (HK.out.below (bl_new (Below.refl wr.heap.size wr) (.cells xl.toArray 37)))
      generalize zOp = zo at *
      clear hxe hmem hrg hxl HK
      go_upto_region 10 with (refine wpList_load_mid rfl _ _ rfl b (off + k * 14) rfl xl _ HRG.out Try.underlying37 rfl HSZ.out ?_)
      obtain ⟨xb, hxb⟩ : ∃ xb, xb = wr.heap.size := ⟨_, rfl⟩
      rw [← hxb] at HBX ⊢
      generalize wr.alloc (.cells xl.toArray 37) = W5 at *
      obtain ⟨lb2, cap, F, sb, bt, q, ms, hS⟩ := HK5.out
      have hs4 := hS.s
      have HS := Lib.hid hS
      obtain ⟨d0, d1, d2, d3, d4, d5, d6, d8⟩ := HXC.out W5 xb HBX.out
      have hxl2 := HBX.out.lt
      have hs0 : ¬ (s : Int) = 0 := by omega
      have hwb := who_bound xwho hs4
      obtain ⟨kk, hkk, hkks⟩ := who_in xwho hs4.1
      have HKK := Lib.hid hkk
      clear hz hst hxln hxb hkk hS d2 d3 d4 d5 d6 d8 HRG HSZ HK5
      go_upto_region 11 with (fail)
      rw [HKK.out]
      clear hs0 hwb HKK d1
      have HFX := Lib.hid (fun W' (hk : KeepT W5 W') => (show W'.cell? ⟨g, kk, none⟩ = some (.pointer (some ⟨sb kk, 0, none⟩)) ∧ W'.cell? ⟨xb, 2, none⟩ = some (.int .i64 xp) ∧ W'.cell? ⟨xb, 3, none⟩ = some (.int .i64 xn) ∧ W'.cell? ⟨xb, 4, none⟩ = some (.bool xwr) ∧ W'.cell? ⟨xb, 5, none⟩ = some (.bool xsh) ∧ W'.cell? ⟨xb, 6, none⟩ = some (.int .u32 xa) ∧ W'.cell? ⟨xb, 8, none⟩ = some (.slice xA xbs.length xc) from by
        obtain ⟨_, _, e2, e3, e4, e5, e6, e8⟩ := HXC.out W' xb (hk.2 xb _ _ (by decide) (by decide) (by decide) HBX.out)
        exact ⟨HS.out.ptr hkks hk, e2, e3, e4, e5, e6, e8⟩))
      have hki2 : (kk : Int) < (s : Int) := by omega
      have HXL := Lib.hid (show xbs.length ≤ 4096 from by have h3 : xbs.length ≤ 300 := HX3.out; omega)
      by_cases k0 : xk = 0
      case pos =>
        subst k0
        as_aux_lemma =>
          have HCALL := Lib.hid (asMap HS.out.a.drew hkks xp xn xwr xsh)
          go_wp2_with (fail)
          refine wp_region_held_drew (S := fun w' => KeepT W5 w') (by kernel_rfl) (KeepT.of_below (Below.refl W5.heap.size W5).drew) (fun hS => ?_)
          refine wpAnyH_takeD (i := 0) (v := ?_) rfl (by kernel_rfl) (by kernel_rfl) (by kernel_rfl) (fun _ _ _ h => h) (Or.inl ⟨by kernel_rfl, ?_⟩) hS ?_
          rotate_left 1
          · intro w hS
            obtain ⟨p0, e2, e3, e4, e5, e6, e8⟩ := HFX.out _ hS
            go_simp
            all_goals with_reducible rfl
          try simp only [Act.put, List.setIfInBounds_toArray, List.set_cons_zero, List.set_cons_succ]
          refine wpAnyH_takeD (i := 1) (v := ?_) rfl (by kernel_rfl) (by kernel_rfl) (by kernel_rfl) (fun _ _ _ h => h) (Or.inl ⟨by kernel_rfl, ?_⟩) hS ?_
          rotate_left 1
          · intro w hS
            obtain ⟨p0, e2, e3, e4, e5, e6, e8⟩ := HFX.out _ hS
            go_simp
            all_goals with_reducible rfl
          try simp only [Act.put, List.setIfInBounds_toArray, List.set_cons_zero, List.set_cons_succ]
          refine wpAnyH_takeD (i := 2) (v := ?_) rfl (by kernel_rfl) (by kernel_rfl) (by kernel_rfl) (fun _ _ _ h => h) (Or.inl ⟨by kernel_rfl, ?_⟩) hS ?_
          rotate_left 1
          · intro w hS
            obtain ⟨p0, e2, e3, e4, e5, e6, e8⟩ := HFX.out _ hS
            go_simp
            all_goals with_reducible rfl
          try simp only [Act.put, List.setIfInBounds_toArray, List.set_cons_zero, List.set_cons_succ]
          refine wpAnyH_takeD (i := 3) (v := ?_) rfl (by kernel_rfl) (by kernel_rfl) (by kernel_rfl) (fun _ _ _ h => h) (Or.inl ⟨by kernel_rfl, ?_⟩) hS ?_
          rotate_left 1
          · intro w hS
            obtain ⟨p0, e2, e3, e4, e5, e6, e8⟩ := HFX.out _ hS
            go_simp
            all_goals with_reducible rfl
          try simp only [Act.put, List.setIfInBounds_toArray, List.set_cons_zero, List.set_cons_succ]
          refine wpAnyH_takeD (i := 4) (v := ?_) rfl (by kernel_rfl) (by kernel_rfl) (by kernel_rfl) (fun _ _ _ h => h) (Or.inl ⟨by kernel_rfl, ?_⟩) hS ?_
          rotate_left 1
          · intro w hS
            obtain ⟨p0, e2, e3, e4, e5, e6, e8⟩ := HFX.out _ hS
            go_simp
            all_goals with_reducible rfl
          try simp only [Act.put, List.setIfInBounds_toArray, List.set_cons_zero, List.set_cons_succ]
          refine wpAnyH_takeD (i := 5) (v := ?_) rfl (by kernel_rfl) (by kernel_rfl) (by kernel_rfl) (fun _ _ _ h => h) (Or.inl ⟨by kernel_rfl, ?_⟩) hS ?_
          rotate_left 1
          · intro w hS
            obtain ⟨p0, e2, e3, e4, e5, e6, e8⟩ := HFX.out _ hS
            go_simp
            all_goals with_reducible rfl
          try simp only [Act.put, List.setIfInBounds_toArray, List.set_cons_zero, List.set_cons_succ]
          refine wpAnyH_takeD (i := 6) (v := ?_) rfl (by kernel_rfl) (by kernel_rfl) (by kernel_rfl) (fun _ _ _ h => h) (Or.inl ⟨by kernel_rfl, ?_⟩) hS ?_
          rotate_left 1
          · intro w hS
            obtain ⟨p0, e2, e3, e4, e5, e6, e8⟩ := HFX.out _ hS
            go_simp
            all_goals with_reducible rfl
          try simp only [Act.put, List.setIfInBounds_toArray, List.set_cons_zero, List.set_cons_succ]
          refine wpAnyH_takeD (i := 7) (v := ?_) rfl (by kernel_rfl) (by kernel_rfl) (by kernel_rfl) (fun _ _ _ h => h) (Or.inl ⟨by kernel_rfl, ?_⟩) hS ?_
          rotate_left 1
          · intro w hS
            obtain ⟨p0, e2, e3, e4, e5, e6, e8⟩ := HFX.out _ hS
            go_simp
            all_goals with_reducible rfl
          try simp only [Act.put, List.setIfInBounds_toArray, List.set_cons_zero, List.set_cons_succ]
          refine wpAnyH_takeD (i := 8) (v := ?_) rfl (by kernel_rfl) (by kernel_rfl) (by kernel_rfl) (fun _ _ _ h => h) (Or.inl ⟨by kernel_rfl, ?_⟩) hS ?_
          rotate_left 1
          · intro w hS
            obtain ⟨p0, e2, e3, e4, e5, e6, e8⟩ := HFX.out _ hS
            go_simp
            all_goals with_reducible rfl
          try simp only [Act.put, List.setIfInBounds_toArray, List.set_cons_zero, List.set_cons_succ]
          refine wpAnyH_takeD (i := 9) (v := ?_) rfl (by kernel_rfl) (by kernel_rfl) (by kernel_rfl) (fun _ _ _ h => h) (Or.inl ⟨by kernel_rfl, ?_⟩) hS ?_
          rotate_left 1
          · intro w hS
            obtain ⟨p0, e2, e3, e4, e5, e6, e8⟩ := HFX.out _ hS
            go_simp
            all_goals with_reducible rfl
          try simp only [Act.put, List.setIfInBounds_toArray, List.set_cons_zero, List.set_cons_succ]
          refine wpAnyH_takeD (i := 10) (v := ?_) rfl (by kernel_rfl) (by kernel_rfl) (by kernel_rfl) (fun _ _ _ h => h) (Or.inl ⟨by kernel_rfl, ?_⟩) hS ?_
          rotate_left 1
          · intro w hS
            obtain ⟨p0, e2, e3, e4, e5, e6, e8⟩ := HFX.out _ hS
            go_simp
            all_goals with_reducible rfl
          try simp only [Act.put, List.setIfInBounds_toArray, List.set_cons_zero, List.set_cons_succ]
          refine wpAnyH_takeD (i := 11) (v := ?_) rfl (by kernel_rfl) (by kernel_rfl) (by kernel_rfl) (fun _ _ _ h => h) (Or.inl ⟨by kernel_rfl, ?_⟩) hS ?_
          rotate_left 1
          · intro w hS
            obtain ⟨p0, e2, e3, e4, e5, e6, e8⟩ := HFX.out _ hS
            go_simp
            all_goals with_reducible rfl
          try simp only [Act.put, List.setIfInBounds_toArray, List.set_cons_zero, List.set_cons_succ]
          refine wpAnyH_ready (rs := [12]) (by kernel_rfl) (by simp) ?_
          refine AllReadyH.consD rfl (fun K hK => ?_) AllReadyH.nil
          go_simp
          refine (HCALL.out).mono ?_
          rintro e V ⟨rfl, q2, hAv, hkv⟩
          refine hK.out _ _ ((KeepT.of_below (Below.refl W5.heap.size W5).drew).trans hkv) (fun hS => ?_)
          clear hK K
          try simp only [Act.put, List.setIfInBounds_toArray, List.set_cons_zero, List.set_cons_succ]
          refine wpAnyH_done (by kernel_rfl) ?_ _
          have HKV := Lib.hid (show SWx w V fb s g cp from ⟨_, _, _, _, _, _, _, hAv, ownsRow_keep HS.out.r hS (by decide) (by decide) (by decide), hs4⟩)
          clear hAv hkv hS HCALL HFX HS HXC HBX HX HX3 HXL
          have HCN := Lib.hid HKV.out.counts
          go_wp2_with (fail)
          refine HCN.out.mono ?_
          rintro e W9 ⟨rfl, hb9⟩
          have HK9 := Lib.hid (HKV.out.below hb9)
          clear hb9 HCN HKV
          go_wp2_with (fail)
          exact ⟨⟨k + 1, s, g, cp, by simp, by omega, rfl, HK9⟩, by simp [intOf]; omega⟩
      have n0 : (xk == 0) = false := beq_eq_false_iff_ne.2 k0
      by_cases k1 : xk = 1
      case pos =>
        subst k1
        as_aux_lemma =>
          have HCALL := Lib.hid (asUnmap HS.out.a.drew hkks xp xn)
          go_wp2_with (fail)
          refine wp_region_held_drew (S := fun w' => KeepT W5 w') (by kernel_rfl) (KeepT.of_below (Below.refl W5.heap.size W5).drew) (fun hS => ?_)
          refine wpAnyH_takeD (i := 0) (v := ?_) rfl (by kernel_rfl) (by kernel_rfl) (by kernel_rfl) (fun _ _ _ h => h) (Or.inl ⟨by kernel_rfl, ?_⟩) hS ?_
          rotate_left 1
          · intro w hS
            obtain ⟨p0, e2, e3, e4, e5, e6, e8⟩ := HFX.out _ hS
            go_simp
            all_goals with_reducible rfl
          try simp only [Act.put, List.setIfInBounds_toArray, List.set_cons_zero, List.set_cons_succ]
          refine wpAnyH_takeD (i := 1) (v := ?_) rfl (by kernel_rfl) (by kernel_rfl) (by kernel_rfl) (fun _ _ _ h => h) (Or.inl ⟨by kernel_rfl, ?_⟩) hS ?_
          rotate_left 1
          · intro w hS
            obtain ⟨p0, e2, e3, e4, e5, e6, e8⟩ := HFX.out _ hS
            go_simp
            all_goals with_reducible rfl
          try simp only [Act.put, List.setIfInBounds_toArray, List.set_cons_zero, List.set_cons_succ]
          refine wpAnyH_takeD (i := 2) (v := ?_) rfl (by kernel_rfl) (by kernel_rfl) (by kernel_rfl) (fun _ _ _ h => h) (Or.inl ⟨by kernel_rfl, ?_⟩) hS ?_
          rotate_left 1
          · intro w hS
            obtain ⟨p0, e2, e3, e4, e5, e6, e8⟩ := HFX.out _ hS
            go_simp
            all_goals with_reducible rfl
          try simp only [Act.put, List.setIfInBounds_toArray, List.set_cons_zero, List.set_cons_succ]
          refine wpAnyH_takeD (i := 3) (v := ?_) rfl (by kernel_rfl) (by kernel_rfl) (by kernel_rfl) (fun _ _ _ h => h) (Or.inl ⟨by kernel_rfl, ?_⟩) hS ?_
          rotate_left 1
          · intro w hS
            obtain ⟨p0, e2, e3, e4, e5, e6, e8⟩ := HFX.out _ hS
            go_simp
            all_goals with_reducible rfl
          try simp only [Act.put, List.setIfInBounds_toArray, List.set_cons_zero, List.set_cons_succ]
          refine wpAnyH_takeD (i := 4) (v := ?_) rfl (by kernel_rfl) (by kernel_rfl) (by kernel_rfl) (fun _ _ _ h => h) (Or.inl ⟨by kernel_rfl, ?_⟩) hS ?_
          rotate_left 1
          · intro w hS
            obtain ⟨p0, e2, e3, e4, e5, e6, e8⟩ := HFX.out _ hS
            go_simp
            all_goals with_reducible rfl
          try simp only [Act.put, List.setIfInBounds_toArray, List.set_cons_zero, List.set_cons_succ]
          refine wpAnyH_takeD (i := 5) (v := ?_) rfl (by kernel_rfl) (by kernel_rfl) (by kernel_rfl) (fun _ _ _ h => h) (Or.inl ⟨by kernel_rfl, ?_⟩) hS ?_
          rotate_left 1
          · intro w hS
            obtain ⟨p0, e2, e3, e4, e5, e6, e8⟩ := HFX.out _ hS
            go_simp
            all_goals with_reducible rfl
          try simp only [Act.put, List.setIfInBounds_toArray, List.set_cons_zero, List.set_cons_succ]
          refine wpAnyH_takeD (i := 6) (v := ?_) rfl (by kernel_rfl) (by kernel_rfl) (by kernel_rfl) (fun _ _ _ h => h) (Or.inl ⟨by kernel_rfl, ?_⟩) hS ?_
          rotate_left 1
          · intro w hS
            obtain ⟨p0, e2, e3, e4, e5, e6, e8⟩ := HFX.out _ hS
            go_simp
            all_goals with_reducible rfl
          try simp only [Act.put, List.setIfInBounds_toArray, List.set_cons_zero, List.set_cons_succ]
          refine wpAnyH_takeD (i := 7) (v := ?_) rfl (by kernel_rfl) (by kernel_rfl) (by kernel_rfl) (fun _ _ _ h => h) (Or.inl ⟨by kernel_rfl, ?_⟩) hS ?_
          rotate_left 1
          · intro w hS
            obtain ⟨p0, e2, e3, e4, e5, e6, e8⟩ := HFX.out _ hS
            go_simp
            all_goals with_reducible rfl
          try simp only [Act.put, List.setIfInBounds_toArray, List.set_cons_zero, List.set_cons_succ]
          refine wpAnyH_ready (rs := [8]) (by kernel_rfl) (by simp) ?_
          refine AllReadyH.consD rfl (fun K hK => ?_) AllReadyH.nil
          go_simp
          refine (HCALL.out).mono ?_
          rintro e V ⟨rfl, q2, hAv, hkv⟩
          refine hK.out _ _ ((KeepT.of_below (Below.refl W5.heap.size W5).drew).trans hkv) (fun hS => ?_)
          clear hK K
          try simp only [Act.put, List.setIfInBounds_toArray, List.set_cons_zero, List.set_cons_succ]
          refine wpAnyH_done (by kernel_rfl) ?_ _
          have HKV := Lib.hid (show SWx w V fb s g cp from ⟨_, _, _, _, _, _, _, hAv, ownsRow_keep HS.out.r hS (by decide) (by decide) (by decide), hs4⟩)
          clear hAv hkv hS HCALL HFX HS HXC HBX HX HX3 HXL
          have HCN := Lib.hid HKV.out.counts
          go_wp2_with (fail)
          refine HCN.out.mono ?_
          rintro e W9 ⟨rfl, hb9⟩
          have HK9 := Lib.hid (HKV.out.below hb9)
          clear hb9 HCN HKV
          go_wp2_with (fail)
          exact ⟨⟨k + 1, s, g, cp, by simp, by omega, rfl, HK9⟩, by simp [intOf]; omega⟩
      have n1 : (xk == 1) = false := beq_eq_false_iff_ne.2 k1
      by_cases k2 : xk = 2
      case pos =>
        subst k2
        as_aux_lemma =>
          have HCALL := Lib.hid (asWrite HS.out.a.drew hkks xa HX.out.2 HX.out.1 HXL.out)
          go_wp2_with (fail)
          refine wp_region_held_drew (S := fun w' => KeepT W5 w') (by kernel_rfl) (KeepT.of_below (Below.refl W5.heap.size W5).drew) (fun hS => ?_)
          refine wpAnyH_takeD (i := 0) (v := ?_) rfl (by kernel_rfl) (by kernel_rfl) (by kernel_rfl) (fun _ _ _ h => h) (Or.inl ⟨by kernel_rfl, ?_⟩) hS ?_
          rotate_left 1
          · intro w hS
            obtain ⟨p0, e2, e3, e4, e5, e6, e8⟩ := HFX.out _ hS
            go_simp
            all_goals with_reducible rfl
          try simp only [Act.put, List.setIfInBounds_toArray, List.set_cons_zero, List.set_cons_succ]
          refine wpAnyH_takeD (i := 1) (v := ?_) rfl (by kernel_rfl) (by kernel_rfl) (by kernel_rfl) (fun _ _ _ h => h) (Or.inl ⟨by kernel_rfl, ?_⟩) hS ?_
          rotate_left 1
          · intro w hS
            obtain ⟨p0, e2, e3, e4, e5, e6, e8⟩ := HFX.out _ hS
            go_simp
            all_goals with_reducible rfl
          try simp only [Act.put, List.setIfInBounds_toArray, List.set_cons_zero, List.set_cons_succ]
          refine wpAnyH_takeD (i := 2) (v := ?_) rfl (by kernel_rfl) (by kernel_rfl) (by kernel_rfl) (fun _ _ _ h => h) (Or.inl ⟨by kernel_rfl, ?_⟩) hS ?_
          rotate_left 1
          · intro w hS
            obtain ⟨p0, e2, e3, e4, e5, e6, e8⟩ := HFX.out _ hS
            go_simp
            all_goals with_reducible rfl
          try simp only [Act.put, List.setIfInBounds_toArray, List.set_cons_zero, List.set_cons_succ]
          refine wpAnyH_takeD (i := 3) (v := ?_) rfl (by kernel_rfl) (by kernel_rfl) (by kernel_rfl) (fun _ _ _ h => h) (Or.inl ⟨by kernel_rfl, ?_⟩) hS ?_
          rotate_left 1
          · intro w hS
            obtain ⟨p0, e2, e3, e4, e5, e6, e8⟩ := HFX.out _ hS
            go_simp
            all_goals with_reducible rfl
          try simp only [Act.put, List.setIfInBounds_toArray, List.set_cons_zero, List.set_cons_succ]
          refine wpAnyH_takeD (i := 4) (v := ?_) rfl (by kernel_rfl) (by kernel_rfl) (by kernel_rfl) (fun _ _ _ h => h) (Or.inl ⟨by kernel_rfl, ?_⟩) hS ?_
          rotate_left 1
          · intro w hS
            obtain ⟨p0, e2, e3, e4, e5, e6, e8⟩ := HFX.out _ hS
            go_simp
            all_goals with_reducible rfl
          try simp only [Act.put, List.setIfInBounds_toArray, List.set_cons_zero, List.set_cons_succ]
          refine wpAnyH_takeD (i := 5) (v := ?_) rfl (by kernel_rfl) (by kernel_rfl) (by kernel_rfl) (fun _ _ _ h => h) (Or.inl ⟨by kernel_rfl, ?_⟩) hS ?_
          rotate_left 1
          · intro w hS
            obtain ⟨p0, e2, e3, e4, e5, e6, e8⟩ := HFX.out _ hS
            go_simp
            all_goals with_reducible rfl
          try simp only [Act.put, List.setIfInBounds_toArray, List.set_cons_zero, List.set_cons_succ]
          refine wpAnyH_takeD (i := 6) (v := ?_) rfl (by kernel_rfl) (by kernel_rfl) (by kernel_rfl) (fun _ _ _ h => h) (Or.inl ⟨by kernel_rfl, ?_⟩) hS ?_
          rotate_left 1
          · intro w hS
            obtain ⟨p0, e2, e3, e4, e5, e6, e8⟩ := HFX.out _ hS
            go_simp
            all_goals with_reducible rfl
          try simp only [Act.put, List.setIfInBounds_toArray, List.set_cons_zero, List.set_cons_succ]
          refine wpAnyH_takeD (i := 7) (v := ?_) rfl (by kernel_rfl) (by kernel_rfl) (by kernel_rfl) (fun _ _ _ h => h) (Or.inl ⟨by kernel_rfl, ?_⟩) hS ?_
          rotate_left 1
          · intro w hS
            obtain ⟨p0, e2, e3, e4, e5, e6, e8⟩ := HFX.out _ hS
            go_simp
            all_goals with_reducible rfl
          try simp only [Act.put, List.setIfInBounds_toArray, List.set_cons_zero, List.set_cons_succ]
          refine wpAnyH_ready (rs := [8]) (by kernel_rfl) (by simp) ?_
          refine AllReadyH.consD rfl (fun K hK => ?_) AllReadyH.nil
          go_simp
          refine (HCALL.out).mono ?_
          rintro e V ⟨rfl, q2, hAv, hkv⟩
          refine hK.out _ _ ((KeepT.of_below (Below.refl W5.heap.size W5).drew).trans hkv) (fun hS => ?_)
          clear hK K
          try simp only [Act.put, List.setIfInBounds_toArray, List.set_cons_zero, List.set_cons_succ]
          refine wpAnyH_done (by kernel_rfl) ?_ _
          have HKV := Lib.hid (show SWx w V fb s g cp from ⟨_, _, _, _, _, _, _, hAv, ownsRow_keep HS.out.r hS (by decide) (by decide) (by decide), hs4⟩)
          clear hAv hkv hS HCALL HFX HS HXC HBX HX HX3 HXL
          have HCN := Lib.hid HKV.out.counts
          go_wp2_with (fail)
          refine HCN.out.mono ?_
          rintro e W9 ⟨rfl, hb9⟩
          have HK9 := Lib.hid (HKV.out.below hb9)
          clear hb9 HCN HKV
          go_wp2_with (fail)
          exact ⟨⟨k + 1, s, g, cp, by simp, by omega, rfl, HK9⟩, by simp [intOf]; omega⟩
      have n2 : (xk == 2) = false := beq_eq_false_iff_ne.2 k2
      by_cases k5 : xk = 5
      case pos =>
        subst k5
        as_aux_lemma =>
          obtain ⟨p0, _⟩ := HFX.out W5 (KeepT.refl _)
          by_cases h4 : (s : Int) < 4
          case pos =>
            obtain ⟨i0, hi, hz0, hz1, hz2⟩ := info_parts infoP
            have HCL := Lib.hid (asClone HS.out.a hkks (by omega))
            go_wp2_with (fail)
            refine HCL.out.mono ?_
            rintro e V ⟨co, bo2, qo, rfl, hAv, hkv⟩
            have hblv := bl_new (Below.refl V.heap.size V) (.cells #[.pointer (some ⟨co, 0, none⟩)] 29)
            have hro := ownsRow_below (ownsRow_keep HS.out.r hkv (by decide) (by decide) (by decide)) hblv
            have HAV := Lib.hid (hAv.below hblv)
            have HRO := Lib.hid hro
            have HGB := Lib.hid (show w.heap.size ≤ g ∧ ∃ cur, Blk (V.alloc (.cells #[.pointer (some ⟨co, 0, none⟩)] 29)) g 29 cur from by
              obtain ⟨h1, cur, h2, _⟩ := HS.out.blk
              have h3 := hkv.2 g _ _ (by decide) (by decide) (by decide) h2
              exact ⟨h1, cur, h3.below hblv h3.lt⟩)
            have HWS := Lib.hid (show w.heap.size ≤ (V.alloc (.cells #[.pointer (some ⟨co, 0, none⟩)] 29)).heap.size from HAV.out.lo.size)
            clear hAv hkv hro hblv HCL HFX HXC HBX HX HX3 HXL HS
            go_wp2_with (at_builtin; refine wpList_append_own _ rfl _ _ 55 rfl w.heap.size 29 i0 _ 1 8 Try.underlying55 hi hz0 hz1 hz2 rfl (by decide) (.slice (some ⟨g, 0, none⟩) s cp) s _ rfl HRO.out ⟨V.heap.size, 0, none⟩ 1 1 [.pointer (some ⟨co, 0, none⟩)] rfl rfl (cells_new _ _ _) (by simp [Value.oneCell']) (by unfold maxLen; omega) (by omega) HWS.out ?_; intro v' w1 hown' hgrow _)
            have hrow := hown'
            rw [ptrsL_more] at hrow
            obtain ⟨g2, cp2, rfl⟩ : ∃ g2 cp2, v' = .slice (some ⟨g2, 0, none⟩) (s + 1) cp2 := by
              rcases hrow.2 with ⟨_, h0⟩ | ⟨g2, cp2, cur2, e, _⟩
              · omega
              · exact ⟨g2, cp2, e⟩
            have HKV := Lib.hid (show SWx w w1 fb (s + 1) g2 cp2 from ⟨_, _, _, _, _, _, _, HAV.out.but (But.of_grown hgrow) (fun k2 hk2 => by
              have e : g = k2 := by simpa [Value.ownBlock] using hk2
              subst e
              obtain ⟨h1, cur, h2⟩ := HGB.out
              exact ⟨h1, _, cur, h2, by decide, by decide, by decide, by decide, by decide⟩), hrow, by omega⟩)
            clear hrow hown' hgrow HAV HRO HGB HWS hi hz0 hz1 hz2
            have HCN := Lib.hid HKV.out.counts
            go_wp2_with (fail)
            refine HCN.out.mono ?_
            rintro e W9 ⟨rfl, hb9⟩
            have HK9 := Lib.hid (HKV.out.below hb9)
            clear hb9 HCN HKV
            go_wp2_with (fail)
            exact ⟨⟨k + 1, s + 1, g2, cp2, by simp, by omega, rfl, HK9⟩, by simp [intOf]; omega⟩
          case neg =>
            have HKV := Lib.hid (show SWx w W5 fb s g cp from ⟨_, _, _, _, _, _, _, HS.out⟩)
            clear HFX HXC HBX HX HX3 HXL HS
            have HCN := Lib.hid HKV.out.counts
            go_wp2_with (fail)
            refine HCN.out.mono ?_
            rintro e W9 ⟨rfl, hb9⟩
            have HK9 := Lib.hid (HKV.out.below hb9)
            clear hb9 HCN HKV
            go_wp2_with (fail)
            exact ⟨⟨k + 1, s, g, cp, by simp, by omega, rfl, HK9⟩, by simp [intOf]; omega⟩
      have n5 : (xk == 5) = false := beq_eq_false_iff_ne.2 k5
      by_cases k6 : xk = 6
      case pos =>
        subst k6
        as_aux_lemma =>
          obtain ⟨p0, _⟩ := HFX.out W5 (KeepT.refl _)
          have HCL := Lib.hid (asDrop HS.out.a hkks)
          go_wp2_with (fail)
          refine HCL.out.mono ?_
          rintro e V ⟨⟨u, rfl⟩, q2, hAv, hkv⟩
          have HKV := Lib.hid (show SWx w V fb s g cp from ⟨_, _, _, _, _, _, _, hAv, ownsRow_keep HS.out.r hkv (by decide) (by decide) (by decide), hs4⟩)
          clear hAv hkv HCL HFX HS HXC HBX HX HX3 HXL
          have HCN := Lib.hid HKV.out.counts
          go_wp2_with (fail)
          refine HCN.out.mono ?_
          rintro e W9 ⟨rfl, hb9⟩
          have HK9 := Lib.hid (HKV.out.below hb9)
          clear hb9 HCN HKV
          go_wp2_with (fail)
          exact ⟨⟨k + 1, s, g, cp, by simp, by omega, rfl, HK9⟩, by simp [intOf]; omega⟩
      have n6 : (xk == 6) = false := beq_eq_false_iff_ne.2 k6
      as_aux_lemma =>
        have HKV := Lib.hid (show SWx w W5 fb s g cp from ⟨_, _, _, _, _, _, _, HS.out⟩)
        clear HFX HXC HBX HX HX3 HXL HS
        have HCN := Lib.hid HKV.out.counts
        go_wp2_with (fail)
        refine HCN.out.mono ?_
        rintro e W9 ⟨rfl, hb9⟩
        have HK9 := Lib.hid (HKV.out.below hb9)
        clear hb9 HCN HKV
        go_wp2_with (fail)
        exact ⟨⟨k + 1, s, g, cp, by simp, by omega, rfl, HK9⟩, by simp [intOf]; omega⟩
    have hki : ¬ (k : Int) < (l.length : Int) := by omega
    clear HO HGL HGR hkl
    obtain ⟨lb2, cap, F, sb, bt, q, ms, hS⟩ := HK.out
    have hs4 := hS.s
    have HS := Lib.hid hS
    have hs0 : ¬ (s : Int) = 0 := by omega
    have hwb := who_bound who hs4
    obtain ⟨K, hK, hKs⟩ := who_in who hs4.1
    have HKK := Lib.hid hK
    clear hK hS HK
    go_upto_region 26 with (fail)
    rw [HKK.out]
    clear hs0 hwb HKK
    have hKi : (K : Int) < (s : Int) := by omega
    go_wp2_with (fail)
    go_loopw [19, 20] (fun ws i wr => ∃ j : Nat, i = .int .i64 (j : Int) ∧ j ≤ s ∧ Hid (SW w wr fb s g cp lb2 cap F sb bt q ms ∧ wr.ownsRow w.heap.size 41 64 ws j (wasL F ms j))) (fun _ i _ => s - (intOf i).toNat)
    case atStart => exact ⟨0, rfl, Nat.zero_le _, Lib.hid ⟨HS.out, World.ownsRow_nil _ _ _ _⟩⟩
    case round =>
      clear HS
      obtain ⟨j, rfl, hj, HQ⟩ := hrel
      by_cases hjs : j < s
      case pos =>
        have hji : (j : Int) < (s : Int) := by omega
        have p0 := HQ.out.1.ptr hjs (KeepT.refl _)
        have hpt := HQ.out.1.ptrs.1
        have HPG := Lib.hid (asPages HQ.out.1.a hjs)
        have HPL := Lib.hid (show (pgL F (ms j) 64).length = 64 ∧ ∀ v ∈ pgL F (ms j) 64, v.oneCell' = true from ⟨pgL_len _ _ _, pgL_one _ _ _⟩)
        have HWL := Lib.hid (wasL_succ F ms j)
        unfold pgV at HPG
        generalize pgL F (ms j) 64 = vl at *
        go_wp2_with (fail)
        refine HPG.out.mono ?_
        rintro e V ⟨rfl, hbv⟩
        have HQ2 := Lib.hid (show SW w V fb s g cp lb2 cap F sb bt q ms ∧ V.ownsRow w.heap.size 41 64 u19 j (wasL F ms j) from ⟨HQ.out.1.below hbv, ownsRow_below HQ.out.2 hbv⟩)
        clear hbv HPG HQ p0 hpt
        have hlen := HPL.out.1
        obtain ⟨i0, hi, hz0, hz1, hz2⟩ := info_parts infoS64
        have hbl := bl_new (Below.refl V.heap.size V) (.cells vl.toArray 41)
        have HQ3 := Lib.hid (show SW w (V.alloc (.cells vl.toArray 41)) fb s g cp lb2 cap F sb bt q ms ∧ (V.alloc (.cells vl.toArray 41)).ownsRow w.heap.size 41 64 u19 j (wasL F ms j) from ⟨HQ2.out.1.below hbl, ownsRow_below HQ2.out.2 hbl⟩)
        have HNW := Lib.hid (show ∀ (i : Nat) (u : Value), vl[i]? = some u → (V.alloc (.cells vl.toArray 41)).cell? ((⟨V.heap.size, 0, none⟩ : Addr).add i) = some u from fun i u hu => by
          rw [add_eq, Nat.zero_add, (Blk.new V 41 vl.toArray).cell, List.getElem?_toArray]; exact hu)
        clear hbl HQ2
        go_wp2_with (first | (refine wpList_buildSlice rfl 57 41 1 _ rfl vl.toArray i0 _ Try.underlying57 hi hz0 (by rw [hz1]; omega) (by rw [hz1]; omega) (by rw [hz1]; simp only [List.map_toArray, List.map_cons, List.map_nil]; exact fill_pg hlen _ (by simp)) ?_) | (at_builtin; refine wpList_append_own _ rfl _ _ 57 rfl w.heap.size 41 i0 _ 64 1024 Try.underlying57 hi hz0 hz1 hz2 rfl (by decide) u19 j _ rfl HQ3.out.2 ⟨V.heap.size, 0, none⟩ 1 1 vl rfl (by rw [hlen]) HNW.out HPL.out.2 (by unfold maxLen; omega) (by omega) HQ3.out.1.lo.size ?_; intro v' w1 hown' hgrow _))
        exact ⟨⟨j + 1, by simp, by omega, Lib.hid ⟨HQ3.out.1.grown hgrow (fun k2 hk2 => row_blockG HQ3.out.2 hk2), by rw [HWL.out]; exact hown'⟩⟩, by simp [intOf]; omega⟩
      have hji : ¬ (j : Int) < (s : Int) := by omega
      have hjj : j = s := by omega
      subst hjj
      clear hjs hj
      obtain ⟨gw, cw, rfl⟩ : ∃ gw cw, u19 = .slice (some ⟨gw, 0, none⟩) j cw := by
        rcases HQ.out.2.2 with ⟨_, h0⟩ | ⟨gw, cw, cur2, e, _⟩
        · omega
        · exact ⟨gw, cw, e⟩
      have hlb : bs.length ≤ 300 := by omega
      have HLOW := Lib.hid HB4.out.low
      have p0 := HQ.out.1.ptr hKs (KeepT.refl _)
      have hpt := HQ.out.1.ptrs.1
      have HWR := Lib.hid (asWrite HQ.out.1.a hKs a (by omega) HB4.out (by omega))
      have HRB := Lib.hid (read_back HQ.out.1.a.gi hKs a (show bs.length ≤ 4096 by omega) HLOW.out)
      have HSEEN := Lib.hid (fun (i p : Nat) (hi : i < j) (hp : p < 64) (tn : Bool) => write_seen (tn := tn) HQ.out.1.a.gi hKs hi a (show bs.length ≤ 4096 by omega) HLOW.out hp)
      obtain ⟨r, hr⟩ : ∃ r, r = writeA F (ms K) a bs := ⟨_, rfl⟩
      rw [← hr] at HWR HRB HSEEN
      obtain ⟨r1, F2, m2⟩ := r
      simp only at HWR HRB HSEEN
      clear hr
      go_wp2_with (fail)
      refine HWR.out.mono ?_
      rintro e V ⟨rfl, q2, hAv, hkv⟩
      have HWAS := Lib.hid (show ∀ i p, i < j → p < 64 → ∃ cur, Blk V gw 41 cur ∧ cur[i * 64 + p]? = some (.string (strOfNums (pageP F (ms i) p))) from fun i p hi hp => by
        obtain ⟨cur, h1, h2⟩ := was_cell HQ.out.2 hi hp
        exact ⟨cur, hkv.2 gw _ _ (by decide) (by decide) (by decide) h1, h2⟩)
      have HS2 := Lib.hid (show SW w V fb j g cp lb2 cap F2 sb bt q2 (updS ms K m2) from ⟨hAv, ownsRow_keep HQ.out.1.r hkv (by decide) (by decide) (by decide), hs4⟩)
      have HMK := Lib.hid (updS_same ms K m2)
      generalize updS ms K m2 = ms2 at *
      clear hAv hkv HWR HQ p0 hpt
      have p0 := HS2.out.ptr hKs (KeepT.refl _)
      have hpt := HS2.out.ptrs.1
      have hrd := asRead HS2.out.a hKs a bs.length (by omega) (by omega)
      rw [HMK.out] at hrd
      have HRD := Lib.hid hrd
      clear hrd
      go_wp2_with (fail)
      refine HRD.out.mono ?_
      rintro e W11 ⟨v, rc, rfl, hyes, ⟨vA, vl2, vk, rfl⟩, hb11⟩
      have HYES := Lib.hid hyes
      have HS3 := Lib.hid (HS2.out.below hb11)
      have HWAS3 := Lib.hid (show ∀ i p, i < j → p < 64 → ∃ cur, Blk W11 gw 41 cur ∧ cur[i * 64 + p]? = some (.string (strOfNums (pageP F (ms i) p))) from fun i p hi hp => by
        obtain ⟨cur, h1, h2⟩ := HWAS.out i p hi hp
        exact ⟨cur, h1.below hb11 h1.lt, h2⟩)
      have HCN := Lib.hid (counts_any HS3.out.a HS3.out.s.2 HS3.out.ptrs cp)
      clear hyes hb11 HRD HS2 HWAS p0 hpt
      by_cases hc : r1 = 0
      case neg =>
        have hc0 : (r1 == 0) = false := beq_eq_false_iff_ne.2 hc
        clear hc
        go_wp2_with (fail)
        refine HCN.out.mono ?_
        rintro e W12 ⟨rfl, hb12⟩
        have HST := Lib.hid (show SW w W12 fb j g cp lb2 cap F2 sb bt q2 ms2 ∧ (∀ i p, i < j → p < 64 → ∃ cur, Blk W12 gw 41 cur ∧ cur[i * 64 + p]? = some (.string (strOfNums (pageP F (ms i) p)))) from ⟨HS3.out.below hb12, fun i p hi hp => by
            obtain ⟨cur, h1, h2⟩ := HWAS3.out i p hi hp
            exact ⟨cur, h1.below hb12 h1.lt, h2⟩⟩)
        clear hb12 HS3 HWAS3 HCN HYES HRB
        as_aux_lemma =>
          go_wp2_with (fail)
          go_loopw [24] (fun i wr => ∃ iA : Nat, i = .int .i64 (iA : Int) ∧ iA ≤ j ∧ Hid (SW w wr fb j g cp lb2 cap F2 sb bt q2 ms2 ∧ (∀ i p, i < j → p < 64 → ∃ cur, Blk wr gw 41 cur ∧ cur[i * 64 + p]? = some (.string (strOfNums (pageP F (ms i) p)))))) (fun i _ => j - (intOf i).toNat)
          case atStart => exact ⟨0, rfl, Nat.zero_le _, HST⟩
          case round =>
            clear HST
            obtain ⟨iA, rfl, hiA, HQ⟩ := hrel
            by_cases hij : iA < j
            case pos =>
              have hii : (iA : Int) < (j : Int) := by omega
              have p0 := HQ.out.1.ptr hij (KeepT.refl _)
              have hpt := HQ.out.1.ptrs.1
              have HPG := Lib.hid (asPages HQ.out.1.a hij)
              have HPL := Lib.hid (show (pgL F2 (ms2 iA) 64).length = 64 ∧ ∀ v ∈ pgL F2 (ms2 iA) 64, v.oneCell' = true from ⟨pgL_len _ _ _, pgL_one _ _ _⟩)
              have HNOW := Lib.hid (show ∀ p, p < 64 → (pgL F2 (ms2 iA) 64)[p]? = some (.string (strOfNums (pageP F2 (ms2 iA) p))) from fun p hp => by
                unfold pgL
                rw [List.getElem?_map, List.getElem?_range hp]
                show some (if p < 64 then Value.string _ else Value.string _) = _
                rw [if_pos hp])
              unfold pgV at HPG
              generalize pgL F2 (ms2 iA) 64 = vl at *
              go_wp2_with (fail)
              refine HPG.out.mono ?_
              rintro e W21 ⟨rfl, hb21⟩
              have HQ2 := Lib.hid (show SW w W21 fb j g cp lb2 cap F2 sb bt q2 ms2 ∧ (∀ i p, i < j → p < 64 → ∃ cur, Blk W21 gw 41 cur ∧ cur[i * 64 + p]? = some (.string (strOfNums (pageP F (ms i) p)))) from ⟨HQ.out.1.below hb21, fun i p hi hp => by
              obtain ⟨cur, h1, h2⟩ := HQ.out.2 i p hi hp
              exact ⟨cur, h1.below hb21 h1.lt, h2⟩⟩)
              clear hb21 HPG HQ p0 hpt
              have hz := zeroS W21
              have hst := run_storeCells_pg HPL.out.1 HPL.out.2 W21
              have HBN := Lib.hid (Blk.new W21 41 vl.toArray)
              have hbl := bl_new (Below.refl W21.heap.size W21) (.cells vl.toArray 41)
              have HQ3 := Lib.hid (show SW w (W21.alloc (.cells vl.toArray 41)) fb j g cp lb2 cap F2 sb bt q2 ms2 ∧ (∀ i p, i < j → p < 64 → ∃ cur, Blk (W21.alloc (.cells vl.toArray 41)) gw 41 cur ∧ cur[i * 64 + p]? = some (.string (strOfNums (pageP F (ms i) p)))) from ⟨HQ2.out.1.below hbl, fun i p hi hp => by
              obtain ⟨cur, h1, h2⟩ := HQ2.out.2 i p hi hp
              exact ⟨cur, h1.below hbl h1.lt, h2⟩⟩)
              have hlen := HPL.out.1
              generalize List.replicate 64 (Value.string ByteArray.empty) = zs at *
              clear hbl HQ2
              go_wp2_with (fail)
              obtain ⟨nb, hnb⟩ : ∃ nb, nb = W21.heap.size := ⟨_, rfl⟩
              rw [← hnb] at HBN ⊢
              generalize W21.alloc (.cells vl.toArray 41) = W22 at *
              clear hz hst hnb hlen
              go_loopw [26] (fun p wr => ∃ pA : Nat, p = .int .i64 (pA : Int) ∧ pA ≤ 64 ∧ Hid (SW w wr fb j g cp lb2 cap F2 sb bt q2 ms2 ∧ (∀ i p, i < j → p < 64 → ∃ cur, Blk wr gw 41 cur ∧ cur[i * 64 + p]? = some (.string (strOfNums (pageP F (ms i) p)))) ∧ Blk wr nb 41 vl.toArray)) (fun p _ => 64 - (intOf p).toNat)
              case atStart => exact ⟨0, rfl, Nat.zero_le _, Lib.hid ⟨HQ3.out.1, HQ3.out.2, HBN.out⟩⟩
              case round =>
                clear HQ3 HBN
                obtain ⟨pA, rfl, hpA, HP⟩ := hrel
                by_cases hp64 : pA < 64
                case pos =>
                  have hpi : (pA : Int) < 64 := by omega
                  have HFK := Lib.hid (fun W' (hb : Below wr.heap.size wr W') => asFrame (HP.out.1.a.below hb) hKs (pA * 64) (by omega))
                  have HFI := Lib.hid (fun W' (hb : Below wr.heap.size wr W') => asFrame (HP.out.1.a.below hb) hij (pA * 64) (by omega))
                  rw [show ((pA * 64 : Nat) : Int) = (pA : Int) * 64 by omega] at HFK HFI
                  rw [HMK.out] at HFK
                  have HSN0 := Lib.hid (HSEEN.out iA pA hij hp64)
                  obtain ⟨mine, hmine⟩ : ∃ m, m = frameP m2 (pA * 64) := ⟨_, rfl⟩
                  obtain ⟨oth, hoth⟩ : ∃ m, m = frameP (ms2 iA) (pA * 64) := ⟨_, rfl⟩
                  rw [← hmine] at HFK HSN0
                  rw [← hoth] at HFI HSN0
                  obtain ⟨mf, msh⟩ := mine
                  obtain ⟨of, osh⟩ := oth
                  simp only at HFK HFI HSN0
                  clear hmine hoth
                  have p0 := HP.out.1.ptr hKs (KeepT.refl _)
                  have hpt := HP.out.1.ptrs.1
                  go_wp2_with (fail)
                  refine (HFK.out _ (Below.refl _ _)).mono ?_
                  rintro e V1 ⟨rfl, hv1⟩
                  have p1 := HP.out.1.ptr hij (KeepT.of_below hv1)
                  have hpt1 := (HP.out.1.below hv1).ptrs.1
                  have HB1 := Lib.hid hv1
                  clear hv1 p0 hpt
                  go_wp2_with (fail)
                  refine (HFI.out _ HB1.out).mono ?_
                  rintro e V2 ⟨rfl, hv2⟩
                  have HSV := Lib.hid (show SW w V2 fb j g cp lb2 cap F2 sb bt q2 ms2 ∧ (∀ i p, i < j → p < 64 → ∃ cur, Blk V2 gw 41 cur ∧ cur[i * 64 + p]? = some (.string (strOfNums (pageP F (ms i) p)))) ∧ Blk V2 nb 41 vl.toArray from by
                    have hb := bl_step HB1.out hv2
                    exact ⟨HP.out.1.below hb, fun i p hi hp => by
                      obtain ⟨cur, h1, h2⟩ := HP.out.2.1 i p hi hp
                      exact ⟨cur, h1.below hb h1.lt, h2⟩, HP.out.2.2.below hb HP.out.2.2.lt⟩)
                  clear hv2 HB1 HFK HFI HP p1 hpt1
                  go_wp2_with (fail)
                  as_aux_lemma =>
                    have HFX := Lib.hid (fun W' (hb : Below V2.heap.size V2 W') => (show W'.cell? ⟨nb, pA, none⟩ = some (.string (strOfNums (pageP F2 (ms2 iA) pA))) ∧ W'.cell? ⟨gw, iA * 64 + pA, none⟩ = some (.string (strOfNums (pageP F (ms iA) pA))) ∧ W'.cell? ⟨g, K, none⟩ = some (.pointer (some ⟨sb K, 0, none⟩)) from by
                      obtain ⟨cur, h1, h2⟩ := HSV.out.2.1 iA pA hij hp64
                      refine ⟨?_, ?_, HSV.out.1.ptr hKs (KeepT.of_below hb)⟩
                      · rw [(HSV.out.2.2.below hb HSV.out.2.2.lt).cell, List.getElem?_toArray]; exact HNOW.out pA hp64
                      · rw [(h1.below hb h1.lt).cell]; exact h2))
                    have hnl := HSV.out.2.2.lt
                    have HPGK := Lib.hid (fun W' (hb : Below V2.heap.size V2 W') => asPage (HSV.out.1.a.below hb) hKs pA hp64)
                    have hseen := HSN0.out false (by unfold turnsW inW; rw [decide_eq_false (beq_eq_false_iff_ne.1 hc0)]; rfl)
                    rw [if_neg (by decide)] at hseen
                    rw [hseen] at HFX
                    have HSN := Lib.hid hseen
                    clear hseen
                    go_wp2_with (fail)
                    refine wp_region_held_drew (S := fun w' => Below V2.heap.size V2 w') (by kernel_rfl) ((Below.refl V2.heap.size V2).drew) (fun hS => ?_)
                    refine wpAnyH_takeD (i := 0) (v := ?_) rfl (by kernel_rfl) (by kernel_rfl) (by kernel_rfl) (fun _ _ _ h => h) (Or.inl ⟨by kernel_rfl, ?_⟩) hS ?_
                    rotate_left 1
                    · intro w hS
                      go_simp
                      all_goals with_reducible rfl
                    try simp only [Act.put, List.setIfInBounds_toArray, List.set_cons_zero, List.set_cons_succ]
                    refine wpAnyH_takeD (i := 1) (v := ?_) rfl (by kernel_rfl) (by kernel_rfl) (by kernel_rfl) (fun _ _ _ h => h) (Or.inl ⟨by kernel_rfl, ?_⟩) hS ?_
                    rotate_left 1
                    · intro w hS
                      go_simp
                      all_goals with_reducible rfl
                    try simp only [Act.put, List.setIfInBounds_toArray, List.set_cons_zero, List.set_cons_succ]
                    refine wpAnyH_takeD (i := 2) (v := ?_) rfl (by kernel_rfl) (by kernel_rfl) (by kernel_rfl) (fun _ _ _ h => h) (Or.inl ⟨by kernel_rfl, ?_⟩) hS ?_
                    rotate_left 1
                    · intro w hS
                      go_simp
                      all_goals with_reducible rfl
                    try simp only [Act.put, List.setIfInBounds_toArray, List.set_cons_zero, List.set_cons_succ]
                    refine wpAnyH_takeD (i := 3) (v := ?_) rfl (by kernel_rfl) (by kernel_rfl) (by kernel_rfl) (fun _ _ _ h => h) (Or.inl ⟨by kernel_rfl, ?_⟩) hS ?_
                    rotate_left 1
                    · intro w hS
                      go_simp
                      all_goals with_reducible rfl
                    try simp only [Act.put, List.setIfInBounds_toArray, List.set_cons_zero, List.set_cons_succ]
                    refine wpAnyH_takeD (i := 4) (v := ?_) rfl (by kernel_rfl) (by kernel_rfl) (by kernel_rfl) (fun _ _ _ h => h) (Or.inl ⟨by kernel_rfl, ?_⟩) hS ?_
                    rotate_left 1
                    · intro w hS
                      go_simp
                      all_goals with_reducible rfl
                    try simp only [Act.put, List.setIfInBounds_toArray, List.set_cons_zero, List.set_cons_succ]
                    refine wpAnyH_takeD (i := 5) (v := ?_) rfl (by kernel_rfl) (by kernel_rfl) (by kernel_rfl) (fun _ _ _ h => h) (Or.inl ⟨by kernel_rfl, ?_⟩) hS ?_
                    rotate_left 1
                    · intro w hS
                      obtain ⟨f0, f1, f2⟩ := HFX.out _ hS
                      go_simp
                      all_goals with_reducible rfl
                    try simp only [Act.put, List.setIfInBounds_toArray, List.set_cons_zero, List.set_cons_succ]
                    refine wpAnyH_takeD (i := 6) (v := ?_) rfl (by kernel_rfl) (by kernel_rfl) (by kernel_rfl) (fun _ _ _ h => h) (Or.inl ⟨by kernel_rfl, ?_⟩) hS ?_
                    rotate_left 1
                    · intro w hS
                      go_simp
                      all_goals with_reducible rfl
                    try simp only [Act.put, List.setIfInBounds_toArray, List.set_cons_zero, List.set_cons_succ]
                    refine wpAnyH_takeD (i := 7) (v := ?_) rfl (by kernel_rfl) (by kernel_rfl) (by kernel_rfl) (fun _ _ _ h => h) (Or.inl ⟨by kernel_rfl, ?_⟩) hS ?_
                    rotate_left 1
                    · intro w hS
                      go_simp
                      all_goals with_reducible rfl
                    try simp only [Act.put, List.setIfInBounds_toArray, List.set_cons_zero, List.set_cons_succ]
                    refine wpAnyH_takeD (i := 8) (v := ?_) rfl (by kernel_rfl) (by kernel_rfl) (by kernel_rfl) (fun _ _ _ h => h) (Or.inl ⟨by kernel_rfl, ?_⟩) hS ?_
                    rotate_left 1
                    · intro w hS
                      go_simp
                      all_goals with_reducible rfl
                    try simp only [Act.put, List.setIfInBounds_toArray, List.set_cons_zero, List.set_cons_succ]
                    refine wpAnyH_takeD (i := 9) (v := ?_) rfl (by kernel_rfl) (by kernel_rfl) (by kernel_rfl) (fun _ _ _ h => h) (Or.inl ⟨by kernel_rfl, ?_⟩) hS ?_
                    rotate_left 1
                    · intro w hS
                      go_simp
                      all_goals with_reducible rfl
                    try simp only [Act.put, List.setIfInBounds_toArray, List.set_cons_zero, List.set_cons_succ]
                    refine wpAnyH_takeD (i := 10) (v := ?_) rfl (by kernel_rfl) (by kernel_rfl) (by kernel_rfl) (fun _ _ _ h => h) (Or.inl ⟨by kernel_rfl, ?_⟩) hS ?_
                    rotate_left 1
                    · intro w hS
                      go_simp
                      all_goals with_reducible rfl
                    try simp only [Act.put, List.setIfInBounds_toArray, List.set_cons_zero, List.set_cons_succ]
                    refine wpAnyH_takeD (i := 11) (v := ?_) rfl (by kernel_rfl) (by kernel_rfl) (by kernel_rfl) (fun _ _ _ h => h) (Or.inl ⟨by kernel_rfl, ?_⟩) hS ?_
                    rotate_left 1
                    · intro w hS
                      obtain ⟨f0, f1, f2⟩ := HFX.out _ hS
                      go_simp
                      all_goals with_reducible rfl
                    try simp only [Act.put, List.setIfInBounds_toArray, List.set_cons_zero, List.set_cons_succ]
                    refine wpAnyH_takeD (i := 12) (v := ?_) rfl (by kernel_rfl) (by kernel_rfl) (by kernel_rfl) (fun _ _ _ h => h) (Or.inl ⟨by kernel_rfl, ?_⟩) hS ?_
                    rotate_left 1
                    · intro w hS
                      go_simp
                      all_goals with_reducible rfl
                    try simp only [Act.put, List.setIfInBounds_toArray, List.set_cons_zero, List.set_cons_succ]
                    refine wpAnyH_takeD (i := 13) (v := ?_) rfl (by kernel_rfl) (by kernel_rfl) (by kernel_rfl) (fun _ _ _ h => h) (Or.inl ⟨by kernel_rfl, ?_⟩) hS ?_
                    rotate_left 1
                    · intro w hS
                      go_simp
                      all_goals with_reducible rfl
                    try simp only [Act.put, List.setIfInBounds_toArray, List.set_cons_zero, List.set_cons_succ]
                    refine wpAnyH_takeD (i := 14) (v := ?_) rfl (by kernel_rfl) (by kernel_rfl) (by kernel_rfl) (fun _ _ _ h => h) (Or.inl ⟨by kernel_rfl, ?_⟩) hS ?_
                    rotate_left 1
                    · intro w hS
                      go_simp
                      all_goals with_reducible rfl
                    try simp only [Act.put, List.setIfInBounds_toArray, List.set_cons_zero, List.set_cons_succ]
                    refine wpAnyH_takeD (i := 15) (v := ?_) rfl (by kernel_rfl) (by kernel_rfl) (by kernel_rfl) (fun _ _ _ h => h) (Or.inl ⟨by kernel_rfl, ?_⟩) hS ?_
                    rotate_left 1
                    · intro w hS
                      go_simp
                      all_goals with_reducible rfl
                    try simp only [Act.put, List.setIfInBounds_toArray, List.set_cons_zero, List.set_cons_succ]
                    refine wpAnyH_takeD (i := 16) (v := ?_) rfl (by kernel_rfl) (by kernel_rfl) (by kernel_rfl) (fun _ _ _ h => h) (Or.inl ⟨by kernel_rfl, ?_⟩) hS ?_
                    rotate_left 1
                    · intro w hS
                      go_simp
                      all_goals with_reducible rfl
                    try simp only [Act.put, List.setIfInBounds_toArray, List.set_cons_zero, List.set_cons_succ]
                    refine wpAnyH_takeD (i := 17) (v := undef) rfl (by kernel_rfl) (by kernel_rfl) (by kernel_rfl) (fun _ _ _ h => h) (Or.inr ⟨by kernel_rfl, rfl⟩) hS ?_
                    try simp only [Act.put, List.setIfInBounds_toArray, List.set_cons_zero, List.set_cons_succ]
                    refine wpAnyH_takeD (i := 18) (v := undef) rfl (by kernel_rfl) (by kernel_rfl) (by kernel_rfl) (fun _ _ _ h => h) (Or.inr ⟨by kernel_rfl, rfl⟩) hS ?_
                    try simp only [Act.put, List.setIfInBounds_toArray, List.set_cons_zero, List.set_cons_succ]
                    refine wpAnyH_takeD (i := 19) (v := undef) rfl (by kernel_rfl) (by kernel_rfl) (by kernel_rfl) (fun _ _ _ h => h) (Or.inr ⟨by kernel_rfl, rfl⟩) hS ?_
                    try simp only [Act.put, List.setIfInBounds_toArray, List.set_cons_zero, List.set_cons_succ]
                    refine wpAnyH_takeD (i := 20) (v := undef) rfl (by kernel_rfl) (by kernel_rfl) (by kernel_rfl) (fun _ _ _ h => h) (Or.inr ⟨by kernel_rfl, rfl⟩) hS ?_
                    try simp only [Act.put, List.setIfInBounds_toArray, List.set_cons_zero, List.set_cons_succ]
                    refine wpAnyH_takeD (i := 21) (v := undef) rfl (by kernel_rfl) (by kernel_rfl) (by kernel_rfl) (fun _ _ _ h => h) (Or.inr ⟨by kernel_rfl, rfl⟩) hS ?_
                    try simp only [Act.put, List.setIfInBounds_toArray, List.set_cons_zero, List.set_cons_succ]
                    refine wpAnyH_takeD (i := 22) (v := undef) rfl (by kernel_rfl) (by kernel_rfl) (by kernel_rfl) (fun _ _ _ h => h) (Or.inr ⟨by kernel_rfl, rfl⟩) hS ?_
                    try simp only [Act.put, List.setIfInBounds_toArray, List.set_cons_zero, List.set_cons_succ]
                    refine wpAnyH_takeD (i := 23) (v := undef) rfl (by kernel_rfl) (by kernel_rfl) (by kernel_rfl) (fun _ _ _ h => h) (Or.inr ⟨by kernel_rfl, rfl⟩) hS ?_
                    try simp only [Act.put, List.setIfInBounds_toArray, List.set_cons_zero, List.set_cons_succ]
                    refine wpAnyH_takeD (i := 24) (v := undef) rfl (by kernel_rfl) (by kernel_rfl) (by kernel_rfl) (fun _ _ _ h => h) (Or.inr ⟨by kernel_rfl, rfl⟩) hS ?_
                    try simp only [Act.put, List.setIfInBounds_toArray, List.set_cons_zero, List.set_cons_succ]
                    refine wpAnyH_takeD (i := 25) (v := undef) rfl (by kernel_rfl) (by kernel_rfl) (by kernel_rfl) (fun _ _ _ h => h) (Or.inr ⟨by kernel_rfl, rfl⟩) hS ?_
                    try simp only [Act.put, List.setIfInBounds_toArray, List.set_cons_zero, List.set_cons_succ]
                    refine wpAnyH_takeD (i := 26) (v := undef) rfl (by kernel_rfl) (by kernel_rfl) (by kernel_rfl) (fun _ _ _ h => h) (Or.inr ⟨by kernel_rfl, rfl⟩) hS ?_
                    try simp only [Act.put, List.setIfInBounds_toArray, List.set_cons_zero, List.set_cons_succ]
                    refine wpAnyH_takeD (i := 27) (v := undef) rfl (by kernel_rfl) (by kernel_rfl) (by kernel_rfl) (fun _ _ _ h => h) (Or.inr ⟨by kernel_rfl, rfl⟩) hS ?_
                    try simp only [Act.put, List.setIfInBounds_toArray, List.set_cons_zero, List.set_cons_succ]
                    refine wpAnyH_takeD (i := 28) (v := ?_) rfl (by kernel_rfl) (by kernel_rfl) (by kernel_rfl) (fun _ _ _ h => h) (Or.inl ⟨by kernel_rfl, ?_⟩) hS ?_
                    rotate_left 1
                    · intro w hS
                      go_simp
                      all_goals with_reducible rfl
                    try simp only [Act.put, List.setIfInBounds_toArray, List.set_cons_zero, List.set_cons_succ]
                    refine wpAnyH_takeD (i := 29) (v := ?_) rfl (by kernel_rfl) (by kernel_rfl) (by kernel_rfl) (fun _ _ _ h => h) (Or.inl ⟨by kernel_rfl, ?_⟩) hS ?_
                    rotate_left 1
                    · intro w hS
                      go_simp
                      all_goals with_reducible rfl
                    try simp only [Act.put, List.setIfInBounds_toArray, List.set_cons_zero, List.set_cons_succ]
                    refine wpAnyH_done (by kernel_rfl) ?_ _
                    have HEND := Lib.hid (show SW w _ fb j g cp lb2 cap F2 sb bt q2 ms2 ∧ (∀ i p, i < j → p < 64 → ∃ cur, Blk _ gw 41 cur ∧ cur[i * 64 + p]? = some (.string (strOfNums (pageP F (ms i) p)))) ∧ Blk _ nb 41 vl.toArray from ⟨HSV.out.1.below hS, fun i p hi hp => by
                        obtain ⟨cur, h1, h2⟩ := HSV.out.2.1 i p hi hp
                        exact ⟨cur, h1.below hS h1.lt, h2⟩, HSV.out.2.2.below hS HSV.out.2.2.lt⟩)
                    clear hS HSV HFX HPGK HSN
                    go_wp2
                    go_roundw
                    case rel =>
                      first | exact ⟨pA + 1, by go_num, by omega, HEND⟩ | ((repeat apply Exists.intro); exact ⟨⟨pA + 1, by go_num, by omega, HEND⟩, rfl⟩)
                    case measure => simp [intOf]; omega
                have hpi : ¬ (pA : Int) < 64 := by omega
                have HE := Lib.hid (show SW w wr fb j g cp lb2 cap F2 sb bt q2 ms2 ∧ (∀ i p, i < j → p < 64 → ∃ cur, Blk wr gw 41 cur ∧ cur[i * 64 + p]? = some (.string (strOfNums (pageP F (ms i) p)))) from ⟨HP.out.1, HP.out.2.1⟩)
                clear HP hp64 hpA
                go_wp2_with (fail)
                first | exact ⟨⟨iA + 1, congrArg (Value.int .i64) (show (iA : Int) + 1 = ((iA + 1 : Nat) : Int) by omega), by omega, HE⟩, by simp [intOf]; omega⟩ | exact ⟨(by (repeat apply Exists.intro); exact ⟨⟨iA + 1, congrArg (Value.int .i64) (show (iA : Int) + 1 = ((iA + 1 : Nat) : Int) by omega), by omega, HE⟩, rfl⟩), by simp [intOf]; omega⟩
            have hii : ¬ (iA : Int) < (j : Int) := by omega
            clear hij hiA
            go_wp2
            go_ret
            exact ⟨rfl, HQ.out.1.lo⟩
      subst hc
      obtain ⟨hok, hrb⟩ := HRB.out rfl
      obtain ⟨rfl, hrow⟩ := HYES.out hok
      rw [hrb] at hrow
      have HR2 := Lib.hid hrow
      clear hok hrb hrow HRB HYES
      go_upto_region 33 with (fail)
      go_cut [212] from 189 to 211 (fun t wc => t = .bool false ∧ Below W11.heap.size W11 wc)
      case first =>
        have hcv1 := conv_row HR2.out
        have hcv2 := conv_bytesA (HB4.out.below HS3.out.lo)
        generalize strOfNums bs = str at *
        by_cases hl0 : 0 < (bs.length : Int)
        · go_wp2_with (fail)
          refine HCN.out.mono ?_
          rintro e W12 ⟨rfl, hb12⟩
          go_wp2_with (fail)
          go_meet
          case rel => exact ⟨rfl, hb12⟩
        · go_wp2_with (fail)
          refine HCN.out.mono ?_
          rintro e W12 ⟨rfl, hb12⟩
          go_wp2_with (fail)
          go_meet
          case rel => exact ⟨rfl, hb12⟩
      case rest =>
        obtain ⟨rfl, hb12⟩ := hcut
        have HST := Lib.hid (show SW w _ fb j g cp lb2 cap F2 sb bt q2 ms2 ∧ (∀ i p, i < j → p < 64 → ∃ cur, Blk _ gw 41 cur ∧ cur[i * 64 + p]? = some (.string (strOfNums (pageP F (ms i) p)))) from ⟨HS3.out.below hb12, fun i p hi hp => by
          obtain ⟨cur, h1, h2⟩ := HWAS3.out i p hi hp
          exact ⟨cur, h1.below hb12 h1.lt, h2⟩⟩)
        clear hb12 HS3 HWAS3 HCN HR2
        as_aux_lemma =>
          go_wp2_with (fail)
          go_loopw [24] (fun i wr => ∃ iA : Nat, i = .int .i64 (iA : Int) ∧ iA ≤ j ∧ Hid (SW w wr fb j g cp lb2 cap F2 sb bt q2 ms2 ∧ (∀ i p, i < j → p < 64 → ∃ cur, Blk wr gw 41 cur ∧ cur[i * 64 + p]? = some (.string (strOfNums (pageP F (ms i) p)))))) (fun i _ => j - (intOf i).toNat)
          case atStart => exact ⟨0, rfl, Nat.zero_le _, HST⟩
          case round =>
            clear HST
            obtain ⟨iA, rfl, hiA, HQ⟩ := hrel
            by_cases hij : iA < j
            case pos =>
              have hii : (iA : Int) < (j : Int) := by omega
              have p0 := HQ.out.1.ptr hij (KeepT.refl _)
              have hpt := HQ.out.1.ptrs.1
              have HPG := Lib.hid (asPages HQ.out.1.a hij)
              have HPL := Lib.hid (show (pgL F2 (ms2 iA) 64).length = 64 ∧ ∀ v ∈ pgL F2 (ms2 iA) 64, v.oneCell' = true from ⟨pgL_len _ _ _, pgL_one _ _ _⟩)
              have HNOW := Lib.hid (show ∀ p, p < 64 → (pgL F2 (ms2 iA) 64)[p]? = some (.string (strOfNums (pageP F2 (ms2 iA) p))) from fun p hp => by
                unfold pgL
                rw [List.getElem?_map, List.getElem?_range hp]
                show some (if p < 64 then Value.string _ else Value.string _) = _
                rw [if_pos hp])
              unfold pgV at HPG
              generalize pgL F2 (ms2 iA) 64 = vl at *
              go_wp2_with (fail)
              refine HPG.out.mono ?_
              rintro e W21 ⟨rfl, hb21⟩
              have HQ2 := Lib.hid (show SW w W21 fb j g cp lb2 cap F2 sb bt q2 ms2 ∧ (∀ i p, i < j → p < 64 → ∃ cur, Blk W21 gw 41 cur ∧ cur[i * 64 + p]? = some (.string (strOfNums (pageP F (ms i) p)))) from ⟨HQ.out.1.below hb21, fun i p hi hp => by
              obtain ⟨cur, h1, h2⟩ := HQ.out.2 i p hi hp
              exact ⟨cur, h1.below hb21 h1.lt, h2⟩⟩)
              clear hb21 HPG HQ p0 hpt
              have hz := zeroS W21
              have hst := run_storeCells_pg HPL.out.1 HPL.out.2 W21
              have HBN := Lib.hid (Blk.new W21 41 vl.toArray)
              have hbl := bl_new (Below.refl W21.heap.size W21) (.cells vl.toArray 41)
              have HQ3 := Lib.hid (show SW w (W21.alloc (.cells vl.toArray 41)) fb j g cp lb2 cap F2 sb bt q2 ms2 ∧ (∀ i p, i < j → p < 64 → ∃ cur, Blk (W21.alloc (.cells vl.toArray 41)) gw 41 cur ∧ cur[i * 64 + p]? = some (.string (strOfNums (pageP F (ms i) p)))) from ⟨HQ2.out.1.below hbl, fun i p hi hp => by
              obtain ⟨cur, h1, h2⟩ := HQ2.out.2 i p hi hp
              exact ⟨cur, h1.below hbl h1.lt, h2⟩⟩)
              have hlen := HPL.out.1
              generalize List.replicate 64 (Value.string ByteArray.empty) = zs at *
              clear hbl HQ2
              go_wp2_with (fail)
              obtain ⟨nb, hnb⟩ : ∃ nb, nb = W21.heap.size := ⟨_, rfl⟩
              rw [← hnb] at HBN ⊢
              generalize W21.alloc (.cells vl.toArray 41) = W22 at *
              clear hz hst hnb hlen
              go_loopw [26] (fun p wr => ∃ pA : Nat, p = .int .i64 (pA : Int) ∧ pA ≤ 64 ∧ Hid (SW w wr fb j g cp lb2 cap F2 sb bt q2 ms2 ∧ (∀ i p, i < j → p < 64 → ∃ cur, Blk wr gw 41 cur ∧ cur[i * 64 + p]? = some (.string (strOfNums (pageP F (ms i) p)))) ∧ Blk wr nb 41 vl.toArray)) (fun p _ => 64 - (intOf p).toNat)
              case atStart => exact ⟨0, rfl, Nat.zero_le _, Lib.hid ⟨HQ3.out.1, HQ3.out.2, HBN.out⟩⟩
              case round =>
                clear HQ3 HBN
                obtain ⟨pA, rfl, hpA, HP⟩ := hrel
                by_cases hp64 : pA < 64
                case pos =>
                  have hpi : (pA : Int) < 64 := by omega
                  have HFK := Lib.hid (fun W' (hb : Below wr.heap.size wr W') => asFrame (HP.out.1.a.below hb) hKs (pA * 64) (by omega))
                  have HFI := Lib.hid (fun W' (hb : Below wr.heap.size wr W') => asFrame (HP.out.1.a.below hb) hij (pA * 64) (by omega))
                  rw [show ((pA * 64 : Nat) : Int) = (pA : Int) * 64 by omega] at HFK HFI
                  rw [HMK.out] at HFK
                  have HSN0 := Lib.hid (HSEEN.out iA pA hij hp64)
                  obtain ⟨mine, hmine⟩ : ∃ m, m = frameP m2 (pA * 64) := ⟨_, rfl⟩
                  obtain ⟨oth, hoth⟩ : ∃ m, m = frameP (ms2 iA) (pA * 64) := ⟨_, rfl⟩
                  rw [← hmine] at HFK HSN0
                  rw [← hoth] at HFI HSN0
                  obtain ⟨mf, msh⟩ := mine
                  obtain ⟨of, osh⟩ := oth
                  simp only at HFK HFI HSN0
                  clear hmine hoth
                  have p0 := HP.out.1.ptr hKs (KeepT.refl _)
                  have hpt := HP.out.1.ptrs.1
                  obtain ⟨inn, hinn⟩ : ∃ inn, inn = inW 0 pA a bs.length := ⟨_, rfl⟩
                  rw [← hinn] at HSN0
                  have HINN := Lib.hid hinn
                  clear hinn
                  go_upto_region 42 with (fail)
                  go_cut [27] from 228 to 250 (fun t wc => t = .bool inn ∧ wc = wr)
                  case first =>
                    by_cases h1 : (a : Int) < (pA : Int) * 64 + 64
                    · by_cases h2 : (pA : Int) * 64 < (a : Int) + (bs.length : Int)
                      · go_wp2_with (fail)
                        go_meet
                        case rel => exact ⟨by rw [HINN.out]; unfold inW; simp; omega, rfl⟩
                      · go_wp2_with (fail)
                        go_meet
                        case rel => exact ⟨by rw [HINN.out]; unfold inW; simp; omega, rfl⟩
                    · go_wp2_with (fail)
                      go_meet
                      case rel => exact ⟨by rw [HINN.out]; unfold inW; simp; omega, rfl⟩
                  case rest =>
                    obtain ⟨rfl, hwc⟩ := hcut
                    have hwc := hwc.symm
                    subst hwc
                    go_wp2_with (fail)
                    refine (HFK.out _ (Below.refl _ _)).mono ?_
                    rintro e V1 ⟨rfl, hv1⟩
                    have p1 := HP.out.1.ptr hij (KeepT.of_below hv1)
                    have hpt1 := (HP.out.1.below hv1).ptrs.1
                    have HB1 := Lib.hid hv1
                    clear hv1 p0 hpt
                    go_wp2_with (fail)
                    refine (HFI.out _ HB1.out).mono ?_
                    rintro e V2 ⟨rfl, hv2⟩
                    have HSV := Lib.hid (show SW w V2 fb j g cp lb2 cap F2 sb bt q2 ms2 ∧ (∀ i p, i < j → p < 64 → ∃ cur, Blk V2 gw 41 cur ∧ cur[i * 64 + p]? = some (.string (strOfNums (pageP F (ms i) p)))) ∧ Blk V2 nb 41 vl.toArray from by
                      have hb := bl_step HB1.out hv2
                      exact ⟨HP.out.1.below hb, fun i p hi hp => by
                        obtain ⟨cur, h1, h2⟩ := HP.out.2.1 i p hi hp
                        exact ⟨cur, h1.below hb h1.lt, h2⟩, HP.out.2.2.below hb HP.out.2.2.lt⟩)
                    clear hv2 HB1 HFK HFI HP p1 hpt1
                    obtain ⟨tn, htn⟩ : ∃ tn, tn = turnsW inn (decide (iA = K)) (mf, msh) of := ⟨_, rfl⟩
                    have HTN := Lib.hid htn
                    clear htn
                    go_upto_region 45 with (fail)
                    go_cut [32] from 273 to 286 (fun t wc => t = .bool tn ∧ wc = V2)
                    case first =>
                      cases inn
                      · go_wp2_with (fail)
                        go_meet
                        case rel => exact ⟨by rw [HTN.out]; rfl, rfl⟩
                      · by_cases h1 : iA = K
                        · subst h1
                          go_wp2_with (fail)
                          go_meet
                          case rel => exact ⟨by rw [HTN.out]; unfold turnsW; simp, rfl⟩
                        · have h1i : ((iA : Int) == (K : Int)) = false := beq_eq_false_iff_ne.2 (by omega)
                          have h1d : decide (iA = K) = false := decide_eq_false h1
                          have H1D := Lib.hid h1d
                          clear h1 h1d
                          cases msh
                          · go_wp2_with (fail)
                            go_meet
                            case rel => exact ⟨by rw [HTN.out, H1D.out]; rfl, rfl⟩
                          · go_wp2_with (fail)
                            go_meet
                            case rel => exact ⟨by rw [HTN.out, H1D.out]; unfold turnsW; simp; rw [Bool.eq_iff_iff]; simp, rfl⟩
                    case rest =>
                      obtain ⟨rfl, hwc⟩ := hcut
                      have hwc := hwc.symm
                      subst hwc
                      cases tn
                      case false =>
                        as_aux_lemma =>
                          have HFX := Lib.hid (fun W' (hb : Below V2.heap.size V2 W') => (show W'.cell? ⟨nb, pA, none⟩ = some (.string (strOfNums (pageP F2 (ms2 iA) pA))) ∧ W'.cell? ⟨gw, iA * 64 + pA, none⟩ = some (.string (strOfNums (pageP F (ms iA) pA))) ∧ W'.cell? ⟨g, K, none⟩ = some (.pointer (some ⟨sb K, 0, none⟩)) from by
                            obtain ⟨cur, h1, h2⟩ := HSV.out.2.1 iA pA hij hp64
                            refine ⟨?_, ?_, HSV.out.1.ptr hKs (KeepT.of_below hb)⟩
                            · rw [(HSV.out.2.2.below hb HSV.out.2.2.lt).cell, List.getElem?_toArray]; exact HNOW.out pA hp64
                            · rw [(h1.below hb h1.lt).cell]; exact h2))
                          have hnl := HSV.out.2.2.lt
                          have HPGK := Lib.hid (fun W' (hb : Below V2.heap.size V2 W') => asPage (HSV.out.1.a.below hb) hKs pA hp64)
                          have hseen := HSN0.out false HTN.out.symm
                          rw [if_neg (by decide)] at hseen
                          rw [hseen] at HFX
                          have HSN := Lib.hid hseen
                          clear hseen
                          go_wp2_with (fail)
                          refine wp_region_held_drew (S := fun w' => Below V2.heap.size V2 w') (by kernel_rfl) ((Below.refl V2.heap.size V2).drew) (fun hS => ?_)
                          refine wpAnyH_takeD (i := 0) (v := ?_) rfl (by kernel_rfl) (by kernel_rfl) (by kernel_rfl) (fun _ _ _ h => h) (Or.inl ⟨by kernel_rfl, ?_⟩) hS ?_
                          rotate_left 1
                          · intro w hS
                            go_simp
                            all_goals with_reducible rfl
                          try simp only [Act.put, List.setIfInBounds_toArray, List.set_cons_zero, List.set_cons_succ]
                          refine wpAnyH_takeD (i := 1) (v := ?_) rfl (by kernel_rfl) (by kernel_rfl) (by kernel_rfl) (fun _ _ _ h => h) (Or.inl ⟨by kernel_rfl, ?_⟩) hS ?_
                          rotate_left 1
                          · intro w hS
                            go_simp
                            all_goals with_reducible rfl
                          try simp only [Act.put, List.setIfInBounds_toArray, List.set_cons_zero, List.set_cons_succ]
                          refine wpAnyH_takeD (i := 2) (v := ?_) rfl (by kernel_rfl) (by kernel_rfl) (by kernel_rfl) (fun _ _ _ h => h) (Or.inl ⟨by kernel_rfl, ?_⟩) hS ?_
                          rotate_left 1
                          · intro w hS
                            go_simp
                            all_goals with_reducible rfl
                          try simp only [Act.put, List.setIfInBounds_toArray, List.set_cons_zero, List.set_cons_succ]
                          refine wpAnyH_takeD (i := 3) (v := ?_) rfl (by kernel_rfl) (by kernel_rfl) (by kernel_rfl) (fun _ _ _ h => h) (Or.inl ⟨by kernel_rfl, ?_⟩) hS ?_
                          rotate_left 1
                          · intro w hS
                            go_simp
                            all_goals with_reducible rfl
                          try simp only [Act.put, List.setIfInBounds_toArray, List.set_cons_zero, List.set_cons_succ]
                          refine wpAnyH_takeD (i := 4) (v := ?_) rfl (by kernel_rfl) (by kernel_rfl) (by kernel_rfl) (fun _ _ _ h => h) (Or.inl ⟨by kernel_rfl, ?_⟩) hS ?_
                          rotate_left 1
                          · intro w hS
                            go_simp
                            all_goals with_reducible rfl
                          try simp only [Act.put, List.setIfInBounds_toArray, List.set_cons_zero, List.set_cons_succ]
                          refine wpAnyH_takeD (i := 5) (v := ?_) rfl (by kernel_rfl) (by kernel_rfl) (by kernel_rfl) (fun _ _ _ h => h) (Or.inl ⟨by kernel_rfl, ?_⟩) hS ?_
                          rotate_left 1
                          · intro w hS
                            obtain ⟨f0, f1, f2⟩ := HFX.out _ hS
                            go_simp
                            all_goals with_reducible rfl
                          try simp only [Act.put, List.setIfInBounds_toArray, List.set_cons_zero, List.set_cons_succ]
                          refine wpAnyH_takeD (i := 6) (v := ?_) rfl (by kernel_rfl) (by kernel_rfl) (by kernel_rfl) (fun _ _ _ h => h) (Or.inl ⟨by kernel_rfl, ?_⟩) hS ?_
                          rotate_left 1
                          · intro w hS
                            go_simp
                            all_goals with_reducible rfl
                          try simp only [Act.put, List.setIfInBounds_toArray, List.set_cons_zero, List.set_cons_succ]
                          refine wpAnyH_takeD (i := 7) (v := ?_) rfl (by kernel_rfl) (by kernel_rfl) (by kernel_rfl) (fun _ _ _ h => h) (Or.inl ⟨by kernel_rfl, ?_⟩) hS ?_
                          rotate_left 1
                          · intro w hS
                            go_simp
                            all_goals with_reducible rfl
                          try simp only [Act.put, List.setIfInBounds_toArray, List.set_cons_zero, List.set_cons_succ]
                          refine wpAnyH_takeD (i := 8) (v := ?_) rfl (by kernel_rfl) (by kernel_rfl) (by kernel_rfl) (fun _ _ _ h => h) (Or.inl ⟨by kernel_rfl, ?_⟩) hS ?_
                          rotate_left 1
                          · intro w hS
                            go_simp
                            all_goals with_reducible rfl
                          try simp only [Act.put, List.setIfInBounds_toArray, List.set_cons_zero, List.set_cons_succ]
                          refine wpAnyH_takeD (i := 9) (v := ?_) rfl (by kernel_rfl) (by kernel_rfl) (by kernel_rfl) (fun _ _ _ h => h) (Or.inl ⟨by kernel_rfl, ?_⟩) hS ?_
                          rotate_left 1
                          · intro w hS
                            go_simp
                            all_goals with_reducible rfl
                          try simp only [Act.put, List.setIfInBounds_toArray, List.set_cons_zero, List.set_cons_succ]
                          refine wpAnyH_takeD (i := 10) (v := ?_) rfl (by kernel_rfl) (by kernel_rfl) (by kernel_rfl) (fun _ _ _ h => h) (Or.inl ⟨by kernel_rfl, ?_⟩) hS ?_
                          rotate_left 1
                          · intro w hS
                            go_simp
                            all_goals with_reducible rfl
                          try simp only [Act.put, List.setIfInBounds_toArray, List.set_cons_zero, List.set_cons_succ]
                          refine wpAnyH_takeD (i := 11) (v := ?_) rfl (by kernel_rfl) (by kernel_rfl) (by kernel_rfl) (fun _ _ _ h => h) (Or.inl ⟨by kernel_rfl, ?_⟩) hS ?_
                          rotate_left 1
                          · intro w hS
                            obtain ⟨f0, f1, f2⟩ := HFX.out _ hS
                            go_simp
                            all_goals with_reducible rfl
                          try simp only [Act.put, List.setIfInBounds_toArray, List.set_cons_zero, List.set_cons_succ]
                          refine wpAnyH_takeD (i := 12) (v := ?_) rfl (by kernel_rfl) (by kernel_rfl) (by kernel_rfl) (fun _ _ _ h => h) (Or.inl ⟨by kernel_rfl, ?_⟩) hS ?_
                          rotate_left 1
                          · intro w hS
                            go_simp
                            all_goals with_reducible rfl
                          try simp only [Act.put, List.setIfInBounds_toArray, List.set_cons_zero, List.set_cons_succ]
                          refine wpAnyH_takeD (i := 13) (v := ?_) rfl (by kernel_rfl) (by kernel_rfl) (by kernel_rfl) (fun _ _ _ h => h) (Or.inl ⟨by kernel_rfl, ?_⟩) hS ?_
                          rotate_left 1
                          · intro w hS
                            go_simp
                            all_goals with_reducible rfl
                          try simp only [Act.put, List.setIfInBounds_toArray, List.set_cons_zero, List.set_cons_succ]
                          refine wpAnyH_takeD (i := 14) (v := ?_) rfl (by kernel_rfl) (by kernel_rfl) (by kernel_rfl) (fun _ _ _ h => h) (Or.inl ⟨by kernel_rfl, ?_⟩) hS ?_
                          rotate_left 1
                          · intro w hS
                            go_simp
                            all_goals with_reducible rfl
                          try simp only [Act.put, List.setIfInBounds_toArray, List.set_cons_zero, List.set_cons_succ]
                          refine wpAnyH_takeD (i := 15) (v := ?_) rfl (by kernel_rfl) (by kernel_rfl) (by kernel_rfl) (fun _ _ _ h => h) (Or.inl ⟨by kernel_rfl, ?_⟩) hS ?_
                          rotate_left 1
                          · intro w hS
                            go_simp
                            all_goals with_reducible rfl
                          try simp only [Act.put, List.setIfInBounds_toArray, List.set_cons_zero, List.set_cons_succ]
                          refine wpAnyH_takeD (i := 16) (v := ?_) rfl (by kernel_rfl) (by kernel_rfl) (by kernel_rfl) (fun _ _ _ h => h) (Or.inl ⟨by kernel_rfl, ?_⟩) hS ?_
                          rotate_left 1
                          · intro w hS
                            go_simp
                            all_goals with_reducible rfl
                          try simp only [Act.put, List.setIfInBounds_toArray, List.set_cons_zero, List.set_cons_succ]
                          refine wpAnyH_takeD (i := 17) (v := undef) rfl (by kernel_rfl) (by kernel_rfl) (by kernel_rfl) (fun _ _ _ h => h) (Or.inr ⟨by kernel_rfl, rfl⟩) hS ?_
                          try simp only [Act.put, List.setIfInBounds_toArray, List.set_cons_zero, List.set_cons_succ]
                          refine wpAnyH_takeD (i := 18) (v := undef) rfl (by kernel_rfl) (by kernel_rfl) (by kernel_rfl) (fun _ _ _ h => h) (Or.inr ⟨by kernel_rfl, rfl⟩) hS ?_
                          try simp only [Act.put, List.setIfInBounds_toArray, List.set_cons_zero, List.set_cons_succ]
                          refine wpAnyH_takeD (i := 19) (v := undef) rfl (by kernel_rfl) (by kernel_rfl) (by kernel_rfl) (fun _ _ _ h => h) (Or.inr ⟨by kernel_rfl, rfl⟩) hS ?_
                          try simp only [Act.put, List.setIfInBounds_toArray, List.set_cons_zero, List.set_cons_succ]
                          refine wpAnyH_takeD (i := 20) (v := undef) rfl (by kernel_rfl) (by kernel_rfl) (by kernel_rfl) (fun _ _ _ h => h) (Or.inr ⟨by kernel_rfl, rfl⟩) hS ?_
                          try simp only [Act.put, List.setIfInBounds_toArray, List.set_cons_zero, List.set_cons_succ]
                          refine wpAnyH_takeD (i := 21) (v := undef) rfl (by kernel_rfl) (by kernel_rfl) (by kernel_rfl) (fun _ _ _ h => h) (Or.inr ⟨by kernel_rfl, rfl⟩) hS ?_
                          try simp only [Act.put, List.setIfInBounds_toArray, List.set_cons_zero, List.set_cons_succ]
                          refine wpAnyH_takeD (i := 22) (v := undef) rfl (by kernel_rfl) (by kernel_rfl) (by kernel_rfl) (fun _ _ _ h => h) (Or.inr ⟨by kernel_rfl, rfl⟩) hS ?_
                          try simp only [Act.put, List.setIfInBounds_toArray, List.set_cons_zero, List.set_cons_succ]
                          refine wpAnyH_takeD (i := 23) (v := undef) rfl (by kernel_rfl) (by kernel_rfl) (by kernel_rfl) (fun _ _ _ h => h) (Or.inr ⟨by kernel_rfl, rfl⟩) hS ?_
                          try simp only [Act.put, List.setIfInBounds_toArray, List.set_cons_zero, List.set_cons_succ]
                          refine wpAnyH_takeD (i := 24) (v := undef) rfl (by kernel_rfl) (by kernel_rfl) (by kernel_rfl) (fun _ _ _ h => h) (Or.inr ⟨by kernel_rfl, rfl⟩) hS ?_
                          try simp only [Act.put, List.setIfInBounds_toArray, List.set_cons_zero, List.set_cons_succ]
                          refine wpAnyH_takeD (i := 25) (v := undef) rfl (by kernel_rfl) (by kernel_rfl) (by kernel_rfl) (fun _ _ _ h => h) (Or.inr ⟨by kernel_rfl, rfl⟩) hS ?_
                          try simp only [Act.put, List.setIfInBounds_toArray, List.set_cons_zero, List.set_cons_succ]
                          refine wpAnyH_takeD (i := 26) (v := undef) rfl (by kernel_rfl) (by kernel_rfl) (by kernel_rfl) (fun _ _ _ h => h) (Or.inr ⟨by kernel_rfl, rfl⟩) hS ?_
                          try simp only [Act.put, List.setIfInBounds_toArray, List.set_cons_zero, List.set_cons_succ]
                          refine wpAnyH_takeD (i := 27) (v := undef) rfl (by kernel_rfl) (by kernel_rfl) (by kernel_rfl) (fun _ _ _ h => h) (Or.inr ⟨by kernel_rfl, rfl⟩) hS ?_
                          try simp only [Act.put, List.setIfInBounds_toArray, List.set_cons_zero, List.set_cons_succ]
                          refine wpAnyH_takeD (i := 28) (v := ?_) rfl (by kernel_rfl) (by kernel_rfl) (by kernel_rfl) (fun _ _ _ h => h) (Or.inl ⟨by kernel_rfl, ?_⟩) hS ?_
                          rotate_left 1
                          · intro w hS
                            go_simp
                            all_goals with_reducible rfl
                          try simp only [Act.put, List.setIfInBounds_toArray, List.set_cons_zero, List.set_cons_succ]
                          refine wpAnyH_takeD (i := 29) (v := ?_) rfl (by kernel_rfl) (by kernel_rfl) (by kernel_rfl) (fun _ _ _ h => h) (Or.inl ⟨by kernel_rfl, ?_⟩) hS ?_
                          rotate_left 1
                          · intro w hS
                            go_simp
                            all_goals with_reducible rfl
                          try simp only [Act.put, List.setIfInBounds_toArray, List.set_cons_zero, List.set_cons_succ]
                          refine wpAnyH_done (by kernel_rfl) ?_ _
                          have HEND := Lib.hid (show SW w _ fb j g cp lb2 cap F2 sb bt q2 ms2 ∧ (∀ i p, i < j → p < 64 → ∃ cur, Blk _ gw 41 cur ∧ cur[i * 64 + p]? = some (.string (strOfNums (pageP F (ms i) p)))) ∧ Blk _ nb 41 vl.toArray from ⟨HSV.out.1.below hS, fun i p hi hp => by
                              obtain ⟨cur, h1, h2⟩ := HSV.out.2.1 i p hi hp
                              exact ⟨cur, h1.below hS h1.lt, h2⟩, HSV.out.2.2.below hS HSV.out.2.2.lt⟩)
                          clear hS HSV HFX HPGK HSN
                          go_wp2
                          go_roundw
                          case rel =>
                            first | exact ⟨pA + 1, by go_num, by omega, HEND⟩ | ((repeat apply Exists.intro); exact ⟨⟨pA + 1, by go_num, by omega, HEND⟩, rfl⟩)
                          case measure => simp [intOf]; omega
                      case true =>
                        as_aux_lemma =>
                          have HFX := Lib.hid (fun W' (hb : Below V2.heap.size V2 W') => (show W'.cell? ⟨nb, pA, none⟩ = some (.string (strOfNums (pageP F2 (ms2 iA) pA))) ∧ W'.cell? ⟨gw, iA * 64 + pA, none⟩ = some (.string (strOfNums (pageP F (ms iA) pA))) ∧ W'.cell? ⟨g, K, none⟩ = some (.pointer (some ⟨sb K, 0, none⟩)) from by
                            obtain ⟨cur, h1, h2⟩ := HSV.out.2.1 iA pA hij hp64
                            refine ⟨?_, ?_, HSV.out.1.ptr hKs (KeepT.of_below hb)⟩
                            · rw [(HSV.out.2.2.below hb HSV.out.2.2.lt).cell, List.getElem?_toArray]; exact HNOW.out pA hp64
                            · rw [(h1.below hb h1.lt).cell]; exact h2))
                          have hnl := HSV.out.2.2.lt
                          have HPGK := Lib.hid (fun W' (hb : Below V2.heap.size V2 W') => asPage (HSV.out.1.a.below hb) hKs pA hp64)
                          have hseen := HSN0.out true HTN.out.symm
                          rw [if_pos rfl] at hseen
                          rw [HMK.out, ← hseen] at HPGK
                          have HSN := Lib.hid hseen
                          clear hseen
                          go_wp2_with (fail)
                          refine wp_region_held_drew (S := fun w' => Below V2.heap.size V2 w') (by kernel_rfl) ((Below.refl V2.heap.size V2).drew) (fun hS => ?_)
                          refine wpAnyH_takeD (i := 0) (v := ?_) rfl (by kernel_rfl) (by kernel_rfl) (by kernel_rfl) (fun _ _ _ h => h) (Or.inl ⟨by kernel_rfl, ?_⟩) hS ?_
                          rotate_left 1
                          · intro w hS
                            go_simp
                            all_goals with_reducible rfl
                          try simp only [Act.put, List.setIfInBounds_toArray, List.set_cons_zero, List.set_cons_succ]
                          refine wpAnyH_takeD (i := 1) (v := ?_) rfl (by kernel_rfl) (by kernel_rfl) (by kernel_rfl) (fun _ _ _ h => h) (Or.inl ⟨by kernel_rfl, ?_⟩) hS ?_
                          rotate_left 1
                          · intro w hS
                            go_simp
                            all_goals with_reducible rfl
                          try simp only [Act.put, List.setIfInBounds_toArray, List.set_cons_zero, List.set_cons_succ]
                          refine wpAnyH_takeD (i := 2) (v := ?_) rfl (by kernel_rfl) (by kernel_rfl) (by kernel_rfl) (fun _ _ _ h => h) (Or.inl ⟨by kernel_rfl, ?_⟩) hS ?_
                          rotate_left 1
                          · intro w hS
                            go_simp
                            all_goals with_reducible rfl
                          try simp only [Act.put, List.setIfInBounds_toArray, List.set_cons_zero, List.set_cons_succ]
                          refine wpAnyH_takeD (i := 3) (v := undef) rfl (by kernel_rfl) (by kernel_rfl) (by kernel_rfl) (fun _ _ _ h => h) (Or.inr ⟨by kernel_rfl, rfl⟩) hS ?_
                          try simp only [Act.put, List.setIfInBounds_toArray, List.set_cons_zero, List.set_cons_succ]
                          refine wpAnyH_takeD (i := 4) (v := undef) rfl (by kernel_rfl) (by kernel_rfl) (by kernel_rfl) (fun _ _ _ h => h) (Or.inr ⟨by kernel_rfl, rfl⟩) hS ?_
                          try simp only [Act.put, List.setIfInBounds_toArray, List.set_cons_zero, List.set_cons_succ]
                          refine wpAnyH_takeD (i := 5) (v := undef) rfl (by kernel_rfl) (by kernel_rfl) (by kernel_rfl) (fun _ _ _ h => h) (Or.inr ⟨by kernel_rfl, rfl⟩) hS ?_
                          try simp only [Act.put, List.setIfInBounds_toArray, List.set_cons_zero, List.set_cons_succ]
                          refine wpAnyH_takeD (i := 6) (v := undef) rfl (by kernel_rfl) (by kernel_rfl) (by kernel_rfl) (fun _ _ _ h => h) (Or.inr ⟨by kernel_rfl, rfl⟩) hS ?_
                          try simp only [Act.put, List.setIfInBounds_toArray, List.set_cons_zero, List.set_cons_succ]
                          refine wpAnyH_takeD (i := 7) (v := undef) rfl (by kernel_rfl) (by kernel_rfl) (by kernel_rfl) (fun _ _ _ h => h) (Or.inr ⟨by kernel_rfl, rfl⟩) hS ?_
                          try simp only [Act.put, List.setIfInBounds_toArray, List.set_cons_zero, List.set_cons_succ]
                          refine wpAnyH_takeD (i := 8) (v := undef) rfl (by kernel_rfl) (by kernel_rfl) (by kernel_rfl) (fun _ _ _ h => h) (Or.inr ⟨by kernel_rfl, rfl⟩) hS ?_
                          try simp only [Act.put, List.setIfInBounds_toArray, List.set_cons_zero, List.set_cons_succ]
                          refine wpAnyH_takeD (i := 9) (v := undef) rfl (by kernel_rfl) (by kernel_rfl) (by kernel_rfl) (fun _ _ _ h => h) (Or.inr ⟨by kernel_rfl, rfl⟩) hS ?_
                          try simp only [Act.put, List.setIfInBounds_toArray, List.set_cons_zero, List.set_cons_succ]
                          refine wpAnyH_takeD (i := 10) (v := undef) rfl (by kernel_rfl) (by kernel_rfl) (by kernel_rfl) (fun _ _ _ h => h) (Or.inr ⟨by kernel_rfl, rfl⟩) hS ?_
                          try simp only [Act.put, List.setIfInBounds_toArray, List.set_cons_zero, List.set_cons_succ]
                          refine wpAnyH_takeD (i := 11) (v := undef) rfl (by kernel_rfl) (by kernel_rfl) (by kernel_rfl) (fun _ _ _ h => h) (Or.inr ⟨by kernel_rfl, rfl⟩) hS ?_
                          try simp only [Act.put, List.setIfInBounds_toArray, List.set_cons_zero, List.set_cons_succ]
                          refine wpAnyH_takeD (i := 12) (v := undef) rfl (by kernel_rfl) (by kernel_rfl) (by kernel_rfl) (fun _ _ _ h => h) (Or.inr ⟨by kernel_rfl, rfl⟩) hS ?_
                          try simp only [Act.put, List.setIfInBounds_toArray, List.set_cons_zero, List.set_cons_succ]
                          refine wpAnyH_takeD (i := 13) (v := ?_) rfl (by kernel_rfl) (by kernel_rfl) (by kernel_rfl) (fun _ _ _ h => h) (Or.inl ⟨by kernel_rfl, ?_⟩) hS ?_
                          rotate_left 1
                          · intro w hS
                            go_simp
                            all_goals with_reducible rfl
                          try simp only [Act.put, List.setIfInBounds_toArray, List.set_cons_zero, List.set_cons_succ]
                          refine wpAnyH_takeD (i := 14) (v := ?_) rfl (by kernel_rfl) (by kernel_rfl) (by kernel_rfl) (fun _ _ _ h => h) (Or.inl ⟨by kernel_rfl, ?_⟩) hS ?_
                          rotate_left 1
                          · intro w hS
                            go_simp
                            all_goals with_reducible rfl
                          try simp only [Act.put, List.setIfInBounds_toArray, List.set_cons_zero, List.set_cons_succ]
                          refine wpAnyH_takeD (i := 15) (v := ?_) rfl (by kernel_rfl) (by kernel_rfl) (by kernel_rfl) (fun _ _ _ h => h) (Or.inl ⟨by kernel_rfl, ?_⟩) hS ?_
                          rotate_left 1
                          · intro w hS
                            go_simp
                            all_goals with_reducible rfl
                          try simp only [Act.put, List.setIfInBounds_toArray, List.set_cons_zero, List.set_cons_succ]
                          refine wpAnyH_takeD (i := 16) (v := ?_) rfl (by kernel_rfl) (by kernel_rfl) (by kernel_rfl) (fun _ _ _ h => h) (Or.inl ⟨by kernel_rfl, ?_⟩) hS ?_
                          rotate_left 1
                          · intro w hS
                            go_simp
                            all_goals with_reducible rfl
                          try simp only [Act.put, List.setIfInBounds_toArray, List.set_cons_zero, List.set_cons_succ]
                          refine wpAnyH_takeD (i := 17) (v := ?_) rfl (by kernel_rfl) (by kernel_rfl) (by kernel_rfl) (fun _ _ _ h => h) (Or.inl ⟨by kernel_rfl, ?_⟩) hS ?_
                          rotate_left 1
                          · intro w hS
                            go_simp
                            all_goals with_reducible rfl
                          try simp only [Act.put, List.setIfInBounds_toArray, List.set_cons_zero, List.set_cons_succ]
                          refine wpAnyH_takeD (i := 18) (v := ?_) rfl (by kernel_rfl) (by kernel_rfl) (by kernel_rfl) (fun _ _ _ h => h) (Or.inl ⟨by kernel_rfl, ?_⟩) hS ?_
                          rotate_left 1
                          · intro w hS
                            go_simp
                            all_goals with_reducible rfl
                          try simp only [Act.put, List.setIfInBounds_toArray, List.set_cons_zero, List.set_cons_succ]
                          refine wpAnyH_takeD (i := 19) (v := ?_) rfl (by kernel_rfl) (by kernel_rfl) (by kernel_rfl) (fun _ _ _ h => h) (Or.inl ⟨by kernel_rfl, ?_⟩) hS ?_
                          rotate_left 1
                          · intro w hS
                            obtain ⟨f0, f1, f2⟩ := HFX.out _ hS
                            go_simp
                            all_goals with_reducible rfl
                          try simp only [Act.put, List.setIfInBounds_toArray, List.set_cons_zero, List.set_cons_succ]
                          refine wpAnyH_takeD (i := 20) (v := ?_) rfl (by kernel_rfl) (by kernel_rfl) (by kernel_rfl) (fun _ _ _ h => h) (Or.inl ⟨by kernel_rfl, ?_⟩) hS ?_
                          rotate_left 1
                          · intro w hS
                            go_simp
                            all_goals with_reducible rfl
                          try simp only [Act.put, List.setIfInBounds_toArray, List.set_cons_zero, List.set_cons_succ]
                          refine wpAnyH_takeD (i := 21) (v := ?_) rfl (by kernel_rfl) (by kernel_rfl) (by kernel_rfl) (fun _ _ _ h => h) (Or.inl ⟨by kernel_rfl, ?_⟩) hS ?_
                          rotate_left 1
                          · intro w hS
                            go_simp
                            all_goals with_reducible rfl
                          try simp only [Act.put, List.setIfInBounds_toArray, List.set_cons_zero, List.set_cons_succ]
                          refine wpAnyH_takeD (i := 22) (v := ?_) rfl (by kernel_rfl) (by kernel_rfl) (by kernel_rfl) (fun _ _ _ h => h) (Or.inl ⟨by kernel_rfl, ?_⟩) hS ?_
                          rotate_left 1
                          · intro w hS
                            go_simp
                            all_goals with_reducible rfl
                          try simp only [Act.put, List.setIfInBounds_toArray, List.set_cons_zero, List.set_cons_succ]
                          refine wpAnyH_takeD (i := 23) (v := ?_) rfl (by kernel_rfl) (by kernel_rfl) (by kernel_rfl) (fun _ _ _ h => h) (Or.inl ⟨by kernel_rfl, ?_⟩) hS ?_
                          rotate_left 1
                          · intro w hS
                            obtain ⟨f0, f1, f2⟩ := HFX.out _ hS
                            go_simp
                            all_goals with_reducible rfl
                          try simp only [Act.put, List.setIfInBounds_toArray, List.set_cons_zero, List.set_cons_succ]
                          refine wpAnyH_takeD (i := 24) (v := ?_) rfl (by kernel_rfl) (by kernel_rfl) (by kernel_rfl) (fun _ _ _ h => h) (Or.inl ⟨by kernel_rfl, ?_⟩) hS ?_
                          rotate_left 1
                          · intro w hS
                            go_simp
                            all_goals with_reducible rfl
                          try simp only [Act.put, List.setIfInBounds_toArray, List.set_cons_zero, List.set_cons_succ]
                          refine wpAnyH_ready (rs := [25]) (by kernel_rfl) (by simp) ?_
                          refine AllReadyH.consD rfl (fun K hK => ?_) AllReadyH.nil
                          go_simp
                          refine (HPGK.out _ hS).mono ?_
                          rintro e Vp ⟨vp, rfl, hrow, hbp⟩
                          refine hK.out _ _ (bl_step hS hbp) (fun hS => ?_)
                          clear hK K
                          try simp only [Act.put, List.setIfInBounds_toArray, List.set_cons_zero, List.set_cons_succ]
                          have hcv := conv_row hrow
                          refine wpAnyH_ready (rs := [26]) (by kernel_rfl) (by simp) ?_
                          refine AllReadyH.consD rfl (fun K hK => ?_) AllReadyH.nil
                          go_simp
                          refine hK.out _ _ (hS) (fun hS => ?_)
                          clear hK K
                          try simp only [Act.put, List.setIfInBounds_toArray, List.set_cons_zero, List.set_cons_succ]
                          refine wpAnyH_takeD (i := 27) (v := ?_) rfl (by kernel_rfl) (by kernel_rfl) (by kernel_rfl) (fun _ _ _ h => h) (Or.inl ⟨by kernel_rfl, ?_⟩) hS ?_
                          rotate_left 1
                          · intro w hS
                            go_simp
                            all_goals with_reducible rfl
                          try simp only [Act.put, List.setIfInBounds_toArray, List.set_cons_zero, List.set_cons_succ]
                          refine wpAnyH_takeD (i := 28) (v := ?_) rfl (by kernel_rfl) (by kernel_rfl) (by kernel_rfl) (fun _ _ _ h => h) (Or.inl ⟨by kernel_rfl, ?_⟩) hS ?_
                          rotate_left 1
                          · intro w hS
                            go_simp
                            all_goals with_reducible rfl
                          try simp only [Act.put, List.setIfInBounds_toArray, List.set_cons_zero, List.set_cons_succ]
                          refine wpAnyH_takeD (i := 29) (v := ?_) rfl (by kernel_rfl) (by kernel_rfl) (by kernel_rfl) (fun _ _ _ h => h) (Or.inl ⟨by kernel_rfl, ?_⟩) hS ?_
                          rotate_left 1
                          · intro w hS
                            go_simp
                            all_goals with_reducible rfl
                          try simp only [Act.put, List.setIfInBounds_toArray, List.set_cons_zero, List.set_cons_succ]
                          refine wpAnyH_done (by kernel_rfl) ?_ _
                          have HEND := Lib.hid (show SW w _ fb j g cp lb2 cap F2 sb bt q2 ms2 ∧ (∀ i p, i < j → p < 64 → ∃ cur, Blk _ gw 41 cur ∧ cur[i * 64 + p]? = some (.string (strOfNums (pageP F (ms i) p)))) ∧ Blk _ nb 41 vl.toArray from ⟨HSV.out.1.below hS, fun i p hi hp => by
                              obtain ⟨cur, h1, h2⟩ := HSV.out.2.1 i p hi hp
                              exact ⟨cur, h1.below hS h1.lt, h2⟩, HSV.out.2.2.below hS HSV.out.2.2.lt⟩)
                          clear hS HSV HFX HPGK HSN
                          go_wp2
                          go_roundw
                          case rel =>
                            first | exact ⟨pA + 1, by go_num, by omega, HEND⟩ | ((repeat apply Exists.intro); exact ⟨⟨pA + 1, by go_num, by omega, HEND⟩, rfl⟩)
                          case measure => simp [intOf]; omega
                have hpi : ¬ (pA : Int) < 64 := by omega
                have HE := Lib.hid (show SW w wr fb j g cp lb2 cap F2 sb bt q2 ms2 ∧ (∀ i p, i < j → p < 64 → ∃ cur, Blk wr gw 41 cur ∧ cur[i * 64 + p]? = some (.string (strOfNums (pageP F (ms i) p)))) from ⟨HP.out.1, HP.out.2.1⟩)
                clear HP hp64 hpA
                go_wp2_with (fail)
                first | exact ⟨⟨iA + 1, congrArg (Value.int .i64) (show (iA : Int) + 1 = ((iA + 1 : Nat) : Int) by omega), by omega, HE⟩, by simp [intOf]; omega⟩ | exact ⟨(by (repeat apply Exists.intro); exact ⟨⟨iA + 1, congrArg (Value.int .i64) (show (iA : Int) + 1 = ((iA + 1 : Nat) : Int) by omega), by omega, HE⟩, rfl⟩), by simp [intOf]; omega⟩
            have hii : ¬ (iA : Int) < (j : Int) := by omega
            clear hij hiA
            go_wp2
            go_ret
            exact ⟨rfl, HQ.out.1.lo⟩
end Go.Proofs.Ytolejpbdbjkndaa
