/-
  strings.Lines: the iterator of a text's lines. No condition but the text's length.
-/
import Derived.Stop.RegionWithIn
import Derived.Test.YtoglmemmdolbmaaDoorSeqB
import Derived.Test.YtoglmemmdolbmaaDoorLns
import Derived.Test.YtoglmemmdolbmaaDoorStr3
namespace Go.Proofs.YtoglmemmdolbmaaDoor
open Go.RowKit Go.Shelf
set_option linter.unusedVariables false
set_option linter.unusedSimpArgs false
attribute [local go_sem] Oper.semAt_some

def toL (s : ByteArray) : List UInt8 := s.data.toList
def encL (s : ByteArray) : Array Value := #[.string s]
/-- What a round keeps: the captured block, and what there was of blocks. -/
def KpL (Bs : Nat) (A B : World) : Prop := A.heap.size ≤ B.heap.size ∧ B.heap[Bs]? = A.heap[Bs]?
theorem kpL_t {Bs : Nat} {A B C : World} (h : KpL Bs A B) (k : KpL Bs B C) : KpL Bs A C := ⟨Nat.le_trans h.1 k.1, k.2.trans h.2⟩
theorem kpL_b {Bs n : Nat} (h : Bs < n) (W : World) (o : Obj) : KpL Bs W (W.putObj n o) := ⟨by simp, World.putObj_heap_other (by omega)⟩
theorem ext_take (r : ByteArray) (k : Nat) : toL (r.extract 0 k) = (toL r).take k := by
  unfold toL
  rw [ByteArray.data_extract]
  simp
theorem ext_drop (r : ByteArray) (k : Nat) : toL (r.extract k r.size) = (toL r).drop k := by
  unfold toL
  rw [ByteArray.data_extract, Array.toList_extract, List.extract_eq_take_drop, List.take_of_length_le]
  rw [List.length_drop, Array.length_toList]
  exact Nat.le_refl _
theorem ext_size (r : ByteArray) (k : Nat) : (r.extract k r.size).size = r.size - k := by
  rw [ByteArray.size_extract]
  omega
theorem box_set {W : World} {b : Nat} {t : TypeId} {v : Value} (h : Blk W b t #[v]) (u : Value) : Blk (W.setCell ⟨b, 0, none⟩ u) b t #[u] := by
  have := h.set_ 0 u
  simpa using this

set_option maxRecDepth 100000 in
set_option maxHeartbeats 4000000 in
theorem lines1_in (l Bs : Nat) (s : ByteArray) (hs : s.size ≤ 1000000) (n : Nat) (hn : 3 ≤ n) (W : World) (hl : Bs < W.heap.size) (hB : Blk W Bs 9 #[.string s]) :
    SeqB Bs Fence.wide n Tryd.prog 80 #[.pointer (some ⟨Bs, 0, none⟩)] encL (fun x _ => x.size ≤ s.size) (KpL Bs) (fun xs => xs.map toL = lns (toL s)) (fun pre => pre.map toL <+: lns (toL s)) 1000000 l W := by
  intro J Jx hJ hJx hY h0
  have HJ := Lib.hid hJ
  have HJX := Lib.hid hJx
  have HY := Lib.hid hY
  have H0 := Lib.hid h0
  clear hJ hJx hY h0
  refine callsIn_of_wp Tryd.func80 rfl trivial ?_ rfl
  simp only [Tryd.ntmps80, List.size_toArray, List.length_cons, List.length_nil, Nat.reduceAdd, Nat.reduceSub, Array.replicate_succ, Array.replicate_zero, List.push_toArray, List.append_toArray, List.nil_append, List.cons_append]
  gi_wp2
  gi_loopw [3] (fun _ wr => ∃ (pre : List ByteArray) (r : ByteArray), lns (toL s) = pre.map toL ++ lns (toL r) ∧ J W.heap.size pre wr ∧ Blk wr Bs 9 #[.string r] ∧ W.heap.size ≤ wr.heap.size ∧ r.size + pre.length ≤ s.size)
    (fun _ wr => match wr.cell? ⟨Bs, 0, none⟩ with | some (.string r) => r.size | _ => 0)
  case atStart => exact ⟨[], s, rfl, H0.out _, hB, Nat.le_refl _, by simp⟩
  case round =>
    obtain ⟨pre, r, hls, hJ, hBr, hsz, hlen⟩ := hrel
    clear hB
    have hc := hBr.cell 0
    have hfz := hBr.frozen 0
    have hlt := hBr.lt
    simp only [List.getElem?_toArray, List.getElem?_cons_zero] at hc
    have HLS := Lib.hid hls
    clear hls
    by_cases hr0 : r.size = 0
    · have hre : ¬ (0 : Int) < (r.size : Int) := by omega
      gi_wp2
      go_end0
      have he : toL r = [] := by
        unfold toL
        exact List.eq_nil_of_length_eq_zero (by rw [Array.length_toList]; exact hr0)
      exact ⟨⟨_, rfl⟩, _, Nat.le_refl _, .inl ⟨pre, by rw [HLS.out, he]; simp [lns], hJ⟩⟩
    · have hre : (0 : Int) < (r.size : Int) := by omega
      obtain ⟨ix, hix⟩ : ∃ ix, ix = Lib.indexByte r.data.toList 10 := ⟨_, rfl⟩
      have HI := Lib.hid (fun W => show Calls Tryd.prog 81 #[.string r, .int .u8 10] W fun e w' => e = .returned (.int .i64 ix) ∧ w' = W from by
        rw [hix]
        exact Tryd.strings_IndexByte r 10 W)
      have hge := Lib.indexByte_ge r.data.toList 10
      rw [← hix] at hge
      have HIX := Lib.hid hix
      clear hix
      by_cases hneg : ix = -1
      · subst hneg
        have hJ1 : J W.heap.size pre (wr.setCell ⟨Bs, 0, none⟩ (.string ⟨#[]⟩)) := (HJ.out _).setBs _ hJ rfl
        have hB1 := Lib.hid (box_set hBr (.string ⟨#[]⟩))
        obtain ⟨fn, tmps, assign, body, hy, hR⟩ := HY.out W.heap.size pre r (wr.setCell ⟨Bs, 0, none⟩ (.string ⟨#[]⟩)) (Nat.le_refl _) (by simpa using hsz) hJ1 (by omega) (by omega)
        simp only [encL] at hy
        have hLN : lns (toL r) = [toL r] := lns_neg HIX.out.symm (fun h => hr0 (by
          have := congrArg List.length h
          unfold toL at this
          rw [Array.length_toList] at this
          exact this))
        have HLN := Lib.hid hLN
        have HR := Lib.hid hR
        clear hJ hJ1 hLN hR
        gi_wp2_with (refine ⟨trivial, fun _ => by omega, ?_⟩; refine (callsIn_wide.2 (HI.out _)).mono ?_; rintro e w1 ⟨rfl, rfl⟩)
        refine ⟨fun _ => by omega, HR.out.mono ?_⟩
        rintro e W3 ⟨hk3, (⟨rfl, hJ3⟩ | ⟨rfl, hJ3⟩)⟩
        · have hB3 : Blk W3 Bs 9 #[.string ⟨#[]⟩] := hk3.2.trans hB1.out
          have hc3 := hB3.cell 0
          simp only [List.getElem?_toArray, List.getElem?_cons_zero] at hc3
          have hs3 := hk3.1
          simp only [World.size_setCell] at hs3
          gi_wp2
          go_roundw
          case rel => exact ⟨pre ++ [r], ⟨#[]⟩, by rw [HLS.out, HLN.out]; simp [lns, toL], hJ3, hB3, by omega, by simp only [List.length_append, List.length_cons, List.length_nil]; show 0 + _ ≤ _; omega⟩
          case measure => rw [hc3, hc]; show 0 < r.size; omega
        · gi_wp2
          exact bodyPost_ret (results_none rfl _ _ _) rfl ⟨⟨_, rfl⟩, _, Nat.le_refl _, .inr ⟨pre ++ [r], by rw [HLS.out, HLN.out]; simp [lns, toL, List.map_append], hJ3⟩⟩
      · obtain ⟨o, rfl⟩ : ∃ o : Nat, ix = o := ⟨ix.toNat, by omega⟩
        have hor : o + 1 ≤ r.size := by
          have h := (List.getElem?_eq_some_iff.1 (Lib.indexByte_some HIX.out.symm).1).1
          rw [Array.length_toList] at h
          exact h
        have hoi : (o : Int) + 1 ≤ (r.size : Int) := by omega
        have hri : (r.size : Int) ≤ 1000000 := by omega
        gi_wp2_with (refine ⟨trivial, fun _ => by omega, ?_⟩; refine (callsIn_wide.2 (HI.out _)).mono ?_; rintro e w1 ⟨rfl, rfl⟩)
        gi_region
        have hLN : lns (toL r) = toL (r.extract 0 (o + 1)) :: lns (toL (r.extract (o + 1) r.size)) := by
          rw [ext_take, ext_drop]
          exact lns_some HIX.out.symm
        have HLN := Lib.hid hLN
        have hzs := ext_size r (o + 1)
        have hqs : (r.extract 0 (o + 1)).size ≤ r.size := by rw [ByteArray.size_extract]; omega
        clear hLN
        generalize r.extract 0 (o + 1) = q at *
        generalize r.extract (o + 1) r.size = z at *
        have hJ1 : J W.heap.size pre (w1.setCell ⟨Bs, 0, none⟩ (.string z)).drew := (HJ.out _).below ((HJ.out _).setBs _ hJ rfl) (Below.refl _ _).drew
        have hB1 := Lib.hid (box_set hBr (.string z))
        obtain ⟨fn, tmps, assign, body, hy, hR⟩ := HY.out W.heap.size pre q (w1.setCell ⟨Bs, 0, none⟩ (.string z)).drew (Nat.le_refl _) (by show _ ≤ (w1.setCell _ _).heap.size; simpa using hsz) hJ1 (by omega) (by omega)
        simp only [encL] at hy
        have HR := Lib.hid hR
        clear hJ hJ1 hR
        gi_wp2
        refine ⟨fun _ => by omega, HR.out.mono ?_⟩
        rintro e W3 ⟨hk3, (⟨rfl, hJ3⟩ | ⟨rfl, hJ3⟩)⟩
        · have hB3 : Blk W3 Bs 9 #[.string z] := hk3.2.trans hB1.out
          have hc3 := hB3.cell 0
          simp only [List.getElem?_toArray, List.getElem?_cons_zero] at hc3
          have hs3 := hk3.1
          have hs4 : (w1.setCell ⟨Bs, 0, none⟩ (.string z)).drew.heap.size = w1.heap.size := by show (w1.setCell _ _).heap.size = _; simp
          gi_wp2
          go_roundw
          case rel => exact ⟨pre ++ [q], z, by rw [HLS.out, HLN.out]; simp, hJ3, hB3, by omega, by simp only [List.length_append, List.length_cons, List.length_nil]; omega⟩
          case measure => rw [hc3, hc]; show z.size < r.size; omega
        · gi_wp2
          exact bodyPost_ret (results_none rfl _ _ _) rfl ⟨⟨_, rfl⟩, _, Nat.le_refl _, .inr ⟨pre ++ [q], by rw [HLS.out, HLN.out]; simp [List.map_append], hJ3⟩⟩

theorem lines_in (n : Nat) (s : ByteArray) (w : World) :
    CallsIn Fence.wide n Tryd.prog 65 #[.string s] w fun e w' => e = .returned (.func (.func 80) #[] #[.pointer (some ⟨w.heap.size, 0, none⟩)]) ∧ w' = w.alloc (.cells #[.string s] 9) := by
  refine callsIn_of_wp Tryd.func65 rfl trivial ?_ rfl
  simp only [Tryd.ntmps65, List.size_toArray, List.length_cons, List.length_nil, Nat.reduceAdd, Nat.reduceSub, Array.replicate_succ, Array.replicate_zero, List.push_toArray, List.append_toArray, List.nil_append, List.cons_append]
  gi_wp2
  go_ret
  exact ⟨rfl, rfl⟩
end Go.Proofs.YtoglmemmdolbmaaDoor
