/-
  Walks over slices.Chunk at bytes, four at a time. No condition.
-/
import Derived.RegionIn
import Derived.Test.YtlecfdchmcghlaaIter
namespace Go.Proofs.Ytlecfdchmcghlaa
namespace C4
open Go.RowKit Go.Shelf
set_option linter.unusedVariables false
set_option linter.unusedSimpArgs false
attribute [local go_sem] Oper.semAt_some

theorem chunk_in (F : Fence) (n : Nat) (hF : F.fn 68) (hro : F.round = none) (A : Option Addr) (len cap : Nat) (w : World) :
    CallsIn F n Try.prog 68 #[.slice A len cap, .int .i64 4] w fun e w' => e = .returned (.func (.func 70) #[] #[.pointer (some ⟨w.heap.size, 0, none⟩), .pointer (some ⟨w.heap.size + 1, 0, none⟩)]) ∧
      w' = (w.alloc (.cells #[.slice A len cap] 50)).alloc (.cells #[.int .i64 4] 3) := by
  refine callsIn_of_wp Try.func68 rfl hF ?_ hro
  simp only [Try.ntmps68, List.size_toArray, List.length_cons, List.length_nil, Nat.reduceAdd, Nat.reduceSub, Array.replicate_succ, Array.replicate_zero, List.push_toArray, List.append_toArray, List.nil_append, List.cons_append]
  gi_wp2
  go_ret
  exact ⟨rfl, rfl⟩

/-- How many chunks; how long chunk k is. -/
def chunks (len : Nat) : Nat := (len + 3) / 4
def chunkLen (len k : Nat) : Nat := min 4 (len - 4 * k)
def encC (g off len : Nat) (k : Fin (chunks len)) : Array Value := #[.slice (some ⟨g, off + 4 * k.val, none⟩) (chunkLen len k.val) (chunkLen len k.val)]
theorem finRange_take {m k : Nat} (h : k < m) : (List.finRange m).take (k + 1) = (List.finRange m).take k ++ [⟨k, h⟩] := by
  rw [List.take_add_one]
  congr 1
  rw [List.getElem?_eq_getElem (by simpa using h)]
  simp
theorem finRange_all {m k : Nat} (h : m ≤ k) : (List.finRange m).take k = List.finRange m := List.take_of_length_le (by simpa using h)

set_option maxRecDepth 100000 in
set_option maxHeartbeats 2000000 in
theorem chunk1_in (l Bs Bn n₀ g off len cap : Nat) (A : Option Addr) (hAe : 0 < len → A = some ⟨g, off, none⟩) (hlc : len ≤ cap) (hlen0 : len ≤ 1000000) (hcap : cap ≤ 9223372036854775807) (n : Nat) (hn : 6 ≤ n) (J Jx : List (Fin (chunks len)) → World → Prop)
    (hJa : ∀ s W W', J s W → Below W.heap.size W W' → J s W')
    (hY : ∀ pre x W, J pre W → pre.length < chunks len → YieldAt Fence.wide (n - 1) Try.prog l (encC g off len x) W fun e W' =>
      (e = .returned (.bool true) ∧ J (pre ++ [x]) W' ∧ (Below n₀ W W' ∧ W'.heap[Bs]? = W.heap[Bs]? ∧ W'.heap[Bn]? = W.heap[Bn]?)) ∨ (e = .returned (.bool false) ∧ Jx (pre ++ [x]) W'))
    (W : World) (hBs : Blk W Bs 50 #[.slice A len cap]) (hBn : Blk W Bn 3 #[.int .i64 4]) (h0 : J [] W) :
    CallsIn Fence.wide n Try.prog 70 #[.func (.yield l) #[] #[], .pointer (some ⟨Bs, 0, none⟩), .pointer (some ⟨Bn, 0, none⟩)] W fun e W' => (∃ v, e = .returned v) ∧
      ((∃ ys, ys = List.finRange (chunks len) ∧ J ys W') ∨ (∃ pre, pre <+: List.finRange (chunks len) ∧ Jx pre W')) := by
  refine callsIn_of_wp Try.func70 rfl trivial ?_ rfl
  simp only [Try.ntmps70, List.size_toArray, List.length_cons, List.length_nil, Nat.reduceAdd, Nat.reduceSub, Array.replicate_succ, Array.replicate_zero, List.push_toArray, List.append_toArray, List.nil_append, List.cons_append]
  gi_wp2
  gi_loopw [4] (fun si wr => ∃ k i : Nat, k ≤ chunks len ∧ i = 4 * k ∧ si = .int .i64 (i : Int) ∧ J ((List.finRange (chunks len)).take k) wr ∧ Blk wr Bs 50 #[.slice A len cap] ∧ Blk wr Bn 3 #[.int .i64 4])
    (fun si _ => len + 4 - (intOf si).toNat)
  case atStart => exact ⟨0, 0, Nat.zero_le _, rfl, rfl, h0, hBs, hBn⟩
  case round =>
    obtain ⟨k, i, hk, hi, rfl, hJ, hSr, hNr⟩ := hrel
    have s0 := hSr.cell 0
    have n0 := hNr.cell 0
    simp only [List.getElem?_toArray, List.getElem?_cons_zero] at s0 n0
    have slt := hSr.lt
    have nlt := hNr.lt
    by_cases hkl : k < chunks len
    · have hki : i < len := by unfold chunks at hkl; omega
      obtain rfl := hAe (by omega)
      have hkb : (i : Int) < (len : Int) := by omega
      have htk := finRange_take hkl
      have hlen : ((List.finRange (chunks len)).take k).length < chunks len := by rw [List.length_take]; simp; omega
      have hY1 := fun W hJ => hY _ ⟨k, hkl⟩ W hJ hlen
      generalize (List.finRange (chunks len)).take k = pre at *
      have HTK := Lib.hid htk
      have HSR := Lib.hid hSr
      have HNR := Lib.hid hNr
      clear htk hBs hBn h0 hSr hNr
      have hcl : chunkLen len k = min 4 (len - i) := by rw [hi]; rfl
      simp only [encC] at hY1
      rw [← hi] at hY1
      have HI := Lib.hid hi
      generalize chunkLen len k = cl at *
      have hm0 : (if ((len - i : Nat) : Int) < 4 then ((len - i : Nat) : Int) else 4) = (cl : Int) := by split <;> omega
      have hcl0 : (0 : Int) ≤ (cl : Int) := by omega
      have hcl1 : (i : Int) + (cl : Int) ≤ (cap : Int) := by omega
      have hcl2 : 1 ≤ cl := by omega
      have hcl3 : cl ≤ 4 := by omega
      have hcl4 : i + cl ≤ cap := by omega
      have hicap : (i : Int) ≤ (cap : Int) := by omega
      have hilen : (i : Int) ≤ (len : Int) := by omega
      have h0i : (0 : Int) ≤ (i : Int) := by omega
      have hne : ¬ cap = i := by omega
      clear hi hcl
      gi_wp2
      gi_region
      obtain ⟨fn, tmps, assign, body, hy, hR⟩ := hY1 wr.drew (hJa _ _ _ hJ (Below.refl _ _).drew)
      gi_wp2
      refine ⟨fun _ => by omega, hR.mono ?_⟩
      rintro e W3 (⟨rfl, hJ3, hB3, hs3, hn3⟩ | ⟨rfl, hJx3⟩)
      · have hS3 : Blk W3 Bs 50 #[.slice (some ⟨g, off, none⟩) len cap] := hs3.trans HSR.out
        have hN3 : Blk W3 Bn 3 #[.int .i64 4] := hn3.trans HNR.out
        have m0 := hN3.cell 0
        simp only [List.getElem?_toArray, List.getElem?_cons_zero] at m0
        have mlt := hN3.lt
        have HS3 := Lib.hid hS3
        have HN3 := Lib.hid hN3
        clear hS3 hN3 hs3 hn3 hy hR hY1 s0 n0
        gi_wp2
        go_roundw
        case rel => exact ⟨k + 1, i + 4, by omega, by have := HI.out; omega, by go_num, by rw [HTK.out]; exact hJ3, HS3.out, HN3.out⟩
        case measure => simp [intOf]; omega
      · gi_wp2
        refine bodyPost_ret (results_none rfl _ _ _) rfl ?_
        refine ⟨⟨_, rfl⟩, .inr ⟨_, ?_, hJx3⟩⟩
        rw [← HTK.out]
        exact List.take_prefix _ _
    · have hkk : chunks len ≤ k := by omega
      have hil : ¬ (i : Int) < (len : Int) := by unfold chunks at hkk; omega
      rw [finRange_all hkk] at hJ
      clear hi hY
      gi_wp2
      go_end0
      first | exact ⟨⟨_, rfl⟩, .inl hJ⟩ | exact ⟨⟨_, rfl⟩, .inl ⟨_, rfl, hJ⟩⟩

theorem chunk_stops (n : Nat) (hn : 6 ≤ n) (Bs Bn n₀ g off len cap : Nat) (A : Option Addr) (hAe : 0 < len → A = some ⟨g, off, none⟩) (hlc : len ≤ cap) (hlen0 : len ≤ 1000000) (hcap : cap ≤ 9223372036854775807) (w : World) (hBs : Blk w Bs 50 #[.slice A len cap]) (hBn : Blk w Bn 3 #[.int .i64 4]) :
    SeqStopsK Fence.wide n Try.prog 70 #[.pointer (some ⟨Bs, 0, none⟩), .pointer (some ⟨Bn, 0, none⟩)] (encC g off len) (fun A B => Below n₀ A B ∧ B.heap[Bs]? = A.heap[Bs]? ∧ B.heap[Bn]? = A.heap[Bn]?) (fun ys => ys = List.finRange (chunks len)) (fun pre => pre <+: List.finRange (chunks len)) (chunks len) w := fun l J Jx W hW hJ _ hY h0 =>
  chunk1_in l Bs Bn n₀ g off len cap A hAe hlc hlen0 hcap n hn J Jx (fun s A B hs hb => abides_below hJ hs hb) hY W (hBs.below hW hBs.lt) (hBn.below hW hBn.lt) h0
end C4
end Go.Proofs.Ytlecfdchmcghlaa
