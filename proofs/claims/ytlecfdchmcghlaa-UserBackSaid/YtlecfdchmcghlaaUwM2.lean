/-
  Bytes' words, several spaces, and the law UserBack, walked. Condition: words lie in memory.
-/
import Derived.Test.YtlecfdchmcghlaaUs3
import Derived.RangeFuncNested
import Derived.Lib.EndianBits
import Derived.Test.YtlecfdchmcghlaaBoC4
import Derived.Test.YtlecfdchmcghlaaUwM1
import Derived.Test.YtlecfdchmcghlaaSeqP
import Derived.Deep.Onto
import Derived.Test.YtlecfdchmcghlaaUs2
import Derived.Test.YtlecfdchmcghlaaSpQB
import Derived.Test.YtlecfdchmcghlaaSpU
namespace Go.Proofs.Ytlecfdchmcghlaa
section
open Go.RowKit Go.Shelf
set_option linter.unusedVariables false
set_option linter.unusedSimpArgs false
attribute [local go_sem] Oper.semAt_some

/-- The chapter's space. -/
def CS0 : Fs × M := (mapA (Fs.new 4) m0 0 1 true false).2
def ab : ByteArray := ⟨#[97, 98]⟩
def CS1 : Fs × M := (putA CS0.1 CS0.2 60 ab).2
def CS2 : Fs × M := (putA CS1.1 CS1.2 62 ab).2
theorem c_put1 : (putA CS0.1 CS0.2 60 ab).1 = 0 := by decide +kernel
theorem c_put2 : (putA CS1.1 CS1.2 62 ab).1 = 14 := by decide +kernel
theorem c_text1 : textP CS2.1 CS2.2 60 9 = ([97, 98], 0) := by decide +kernel
theorem c_text2 : (textP CS2.1 CS2.2 60 2).2 = 22 := by decide +kernel
theorem str_ab : strOfNums [97, 98] = ab := by decide +kernel
set_option maxRecDepth 100000 in
set_option maxHeartbeats 2000000 in
theorem some_any {w W : World} (hw : Below w.heap.size w W) : Calls Try.prog 19 #[] W fun e W' => ∃ fb so, e = .returned (.pointer (some ⟨so, 0, none⟩)) ∧ MS w W' fb CS0.1 so CS0.2 := by
  have HW := Lib.hid hw
  clear hw
  go_enter Try.func19, Try.ntmps19
  go_wp2_with (fail)
  refine (asFrames 4 (by decide)).mono ?_
  rintro e W1 ⟨fb, lb, rfl, hf, hb1, g1, g2⟩
  have HF := Lib.hid hf
  have HB := Lib.hid (bl_step HW.out hb1)
  have HG := Lib.hid (show w.heap.size ≤ fb ∧ w.heap.size ≤ lb from ⟨Nat.le_trans HW.out.size g1, Nat.le_trans HW.out.size g2⟩)
  clear hf hb1 g1 g2
  go_wp2_with (fail)
  refine (msSpace HF.out (by decide) HB.out HG.out.1 HG.out.2).mono ?_
  rintro e W2 ⟨so, rfl, h2⟩
  have H2 := Lib.hid h2
  clear h2
  go_wp2_with (fail)
  refine (msMap H2.out 0 1 true false).mono ?_
  rintro e W3 ⟨rfl, h3, _⟩
  have H3 := Lib.hid h3
  clear h3
  go_wp2
  go_ret
  exact ⟨fb, so, rfl, H3.out⟩
set_option maxRecDepth 100000 in
set_option maxHeartbeats 4000000 in
theorem alive_any {w : World} : Calls Try.prog 6 #[] w fun e W' => e = .returned (.bool true) ∧ Below w.heap.size w W' := by
  go_enter Try.func6, Try.ntmps6
  go_wp2_with (fail)
  refine (some_any (Below.refl w.heap.size w)).mono ?_
  rintro e W1 ⟨fb, so, rfl, h1⟩
  have H1 := Lib.hid h1
  clear h1
  go_wp2_with (fail)
  refine (putText_any H1.out 60 (by decide) ab).mono ?_
  rintro e W2 ⟨rfl, h2⟩
  rw [c_put1]
  have H2 := Lib.hid (show MS w W2 fb CS1.1 so CS1.2 from h2)
  clear h2
  go_wp2_with (fail)
  refine (putText_any H2.out 62 (by decide) ab).mono ?_
  rintro e W3 ⟨rfl, h3⟩
  rw [c_put2]
  have H3 := Lib.hid (show MS w W3 fb CS2.1 so CS2.2 from h3)
  clear h3
  obtain ⟨lb, cap, bt, q, hfs⟩ := H3.out.fs
  have HFS := Lib.hid hfs
  have HL := Lib.hid H3.out.lo
  clear hfs
  go_wp2_with (fail)
  refine (text_any (HFS.out.below (Below.refl _ _)) H3.out.ok 60 9 (by decide) (by decide)).mono ?_
  rintro e W4 ⟨rfl, h4⟩
  rw [c_text1]
  simp only [str_ab]
  have H4 := Lib.hid h4
  clear h4
  go_wp2_with (fail)
  refine (text_any (HFS.out.below H4.out) H3.out.ok 60 2 (by decide) (by decide)).mono ?_
  rintro e W5 ⟨rfl, h5⟩
  rw [c_text2]
  have H5 := Lib.hid (bl_step (bl_step HL.out H4.out) h5)
  clear h5
  unfold ab
  go_wp2
  go_ret
  exact ⟨rfl, H5.out⟩
set_option maxRecDepth 100000 in
set_option maxHeartbeats 4000000 in
theorem mapped_any {w W : World} (hw : Below w.heap.size w W) (pages : Int) (hp : 0 ≤ pages ∧ pages ≤ 65535) : Calls Try.prog 7 #[.int .u16 pages] W fun e W' => ∃ fb so F m, e = .returned (.pointer (some ⟨so, 0, none⟩)) ∧ MS w W' fb F so m := by
  have HW := Lib.hid hw
  clear hw
  go_enter Try.func7, Try.ntmps7
  go_wp2_with (fail)
  refine (asFrames 64 (by decide)).mono ?_
  rintro e W1 ⟨fb, lb, rfl, hf, hb1, g1, g2⟩
  have HF := Lib.hid hf
  have HB := Lib.hid (bl_step HW.out hb1)
  have HG := Lib.hid (show w.heap.size ≤ fb ∧ w.heap.size ≤ lb from ⟨Nat.le_trans HW.out.size g1, Nat.le_trans HW.out.size g2⟩)
  clear hf hb1 g1 g2
  go_wp2_with (fail)
  refine (msSpace HF.out (by decide) HB.out HG.out.1 HG.out.2).mono ?_
  rintro e W2 ⟨so, rfl, h2⟩
  have H2 := Lib.hid h2
  clear h2
  go_wp2_with (fail)
  go_loopw [6] (fun i wr => ∃ k : Nat, i = .int .i64 (k : Int) ∧ k ≤ 16 ∧ ∃ F m, Hid (MS w wr fb F so m)) (fun i _ => 16 - (intOf i).toNat)
  case atStart => exact ⟨0, rfl, Nat.zero_le _, _, _, H2⟩
  case round =>
    obtain ⟨k, rfl, hk, F, m, HM⟩ := hrel
    by_cases hk6 : k < 16
    · have hki : (k : Int) < 16 := by omega
      go_wp2_with (refine (msMap HM.out k 1 true false).mono ?_; rintro e W3 ⟨rfl, h3, _⟩; have H3 := Lib.hid h3; clear h3)
      all_goals first
        | exact ⟨⟨k + 1, by go_num, by omega, _, _, H3⟩, by simp [intOf]; omega⟩
        | exact ⟨⟨k + 1, by go_num, by omega, _, _, HM⟩, by simp [intOf]; omega⟩
    · have hki : ¬ (k : Int) < 16 := by omega
      go_wp2
      go_ret
      exact ⟨_, _, rfl, _, _, HM.out⟩
end
section
open Go.RowKit Go.Shelf
set_option linter.unusedVariables false
set_option linter.unusedSimpArgs false

theorem strI_drop (s : ByteArray) (k : Nat) : strOfNums ((bI s).drop k) = s.extract k s.size := by
  have h : (strOfNums ((bI s).drop k)).data.toList = (s.extract k s.size).data.toList := by
    rw [strOfNums_data, ByteArray.data_extract, Array.toList_extract, List.extract_eq_take_drop, List.take_of_length_le (by rw [List.length_drop]; exact Nat.le_of_eq (by rfl))]
    unfold bI
    rw [List.map_drop, List.map_map]
    congr 1
    refine List.map_id'' (fun x => ?_) _
    show UInt8.ofNat ((x.toNat : Int)).toNat = x
    rw [Int.toNat_natCast]
    exact UInt8.ofNat_toNat
  have h2 : (strOfNums ((bI s).drop k)).data = (s.extract k s.size).data := Array.toList_inj.1 h
  cases hs : s.extract k s.size with
  | mk d =>
    rw [hs] at h2
    cases hx : strOfNums ((bI s).drop k) with
    | mk d' =>
      rw [hx] at h2
      simp only at h2
      rw [h2]
/-- A text without a nought. -/
theorem b0_in (s : ByteArray) (h : ¬ hasN s) (i : Nat) (hi : i < s.size) : (b0 s).getD i 0 = (bI s).getD i 0 ∧ (b0 s).getD i 0 ≠ 0 := by
  have hlt : i < (bI s).length := by rw [bI_len]; exact hi
  have h1 : (b0 s).getD i 0 = (bI s).getD i 0 := by
    unfold b0
    rw [List.getD_eq_getElem?_getD, List.getD_eq_getElem?_getD, List.getElem?_append_left hlt]
  refine ⟨h1, fun e => ?_⟩
  rw [h1] at e
  have hge := Lib.indexByte_ge s.data.toList 0
  unfold hasN at h
  have hn := Lib.indexByte_none (l := s.data.toList) (c := 0) (by omega) i
  have hi2 : i < s.data.toList.length := by rw [Array.length_toList]; exact hi
  rw [List.getElem?_eq_getElem hi2] at hn
  refine hn (congrArg some ?_)
  unfold bI at e
  rw [List.getD_eq_getElem?_getD, List.getElem?_map, List.getElem?_eq_getElem hi2] at e
  simp only [Option.map_some, Option.getD_some] at e
  exact UInt8.toNat_inj.1 (by simpa using e)
theorem b0_end (s : ByteArray) : (b0 s).getD s.size 0 = 0 := by
  unfold b0
  rw [List.getD_eq_getElem?_getD, List.getElem?_append_right (by rw [bI_len]; exact Nat.le_refl _), bI_len, Nat.sub_self]; rfl
section
variable {F : Fs} {m : M} {a : Nat} {s : ByteArray}
theorem put_ok (h0 : (putA F m a s).1 = 0) : ¬ hasN s ∧ s.size < 4096 ∧ putA F m a s = writeA F m a (b0 s) := by
  unfold putA at h0 ⊢
  by_cases h : hasN s ∨ 4096 ≤ s.size
  · rw [if_pos h] at h0; cases h0
  · rw [if_neg h]
    exact ⟨fun e => h (.inl e), by omega, rfl⟩
theorem put_told (hok : SpOk F m) (hF : F.Ok) (h0 : (putA F m a s).1 = 0) (i : Nat) (hi : i ≤ s.size) : byteP (putA F m a s).2.1 (putA F m a s).2.2 (a + i) = some ((b0 s).getD i 0) := by
  obtain ⟨hn, hs, he⟩ := put_ok h0
  rw [he] at h0 ⊢
  have hl := b0_len s
  unfold writeA at h0 ⊢
  by_cases hO : okB m a true (pcJ a (b0 s).length) = true
  · rw [if_pos hO] at h0 ⊢
    by_cases hf : freeN F < (needK F m a (pcJ a (b0 s).length) : Nat)
    · rw [if_pos hf] at h0; cases h0
    · rw [if_neg hf] at h0 ⊢
      have hOk := (okB_iff _ _ _ _).1 hO
      have hw := byte_write hok hF (a := a) (k := (b0 s).length) (bs := b0 s) (by omega) rfl hOk (by omega) (b0_low s) (a + i)
      simp only
      obtain ⟨x, hx, _⟩ := hOk ((a + i) / 64 - a / 64) (by
        unfold pcJ
        rw [if_neg (by omega)]
        omega)
      rw [show a / 64 + ((a + i) / 64 - a / 64) = (a + i) / 64 by omega] at hx
      obtain ⟨z, hz⟩ : ∃ z, byteP F m (a + i) = some z := by
        unfold byteP
        rw [hx]; exact ⟨_, rfl⟩
      rw [hw, hz, Option.map_some, if_pos (by omega), Nat.add_sub_cancel_left]
  · rw [if_neg hO] at h0; cases h0
theorem it_put (hok : SpOk F m) (hF : F.Ok) (h0 : (putA F m a s).1 = 0) {k : Nat} (hk : k ≤ s.size) (ha : a + k < 4096) (i : Nat) (hi : k + i ≤ s.size) : itF (putA F m a s).2.1 (putA F m a s).2.2 (a + k) i = ((b0 s).getD (k + i) 0, true) := by
  unfold itF
  rw [if_pos ha, Nat.add_assoc, put_told hok hF h0 (k + i) hi]; rfl
theorem text_put (hok : SpOk F m) (hF : F.Ok) (h0 : (putA F m a s).1 = 0) {k : Nat} (hk : k ≤ s.size) (ha : a + k < 4096) (n : Nat) :
    textP (putA F m a s).2.1 (putA F m a s).2.2 (a + k) (s.size - k + n) = if n = 0 then ([], 22) else ((bI s).drop k, 0) := by
  obtain ⟨hn, _, _⟩ := put_ok h0
  unfold textP
  rw [textG_skip _ (s.size - k) n 0 [] (fun i hi => by
    rw [Nat.zero_add, it_put hok hF h0 hk ha i (by omega)]
    exact ⟨rfl, (b0_in s hn (k + i) (by omega)).2⟩)]
  cases n with
  | zero => rfl
  | succ n =>
    rw [if_neg (by omega), textG, Nat.zero_add, it_put hok hF h0 hk ha (s.size - k) (by omega), if_neg (fun e => Bool.noConfusion e), show k + (s.size - k) = s.size by omega, if_pos (b0_end s), List.nil_append]
    congr 1
    refine List.ext_getElem? fun i => ?_
    rw [List.getElem?_map, List.getElem?_drop]
    by_cases hi : i < s.size - k
    · rw [List.getElem?_range hi, Option.map_some, Nat.zero_add, it_put hok hF h0 hk ha i (by omega), (b0_in s hn (k + i) (by omega)).1, List.getD_eq_getElem?_getD]
      rw [List.getElem?_eq_getElem (by rw [bI_len]; omega)]; rfl
    · rw [List.getElem?_eq_none (by rw [List.length_range]; omega), List.getElem?_eq_none (by rw [bI_len]; omega)]; rfl
end
end
section
open Go.RowKit Go.Shelf
set_option linter.unusedVariables false
set_option linter.unusedSimpArgs false
attribute [local go_sem] Oper.semAt_some

def bC (n : Int) : List Value := [.int .u8 n]
def BytesR (w : World) (A : Option Addr) (l : List Int) : Prop := RowsAt w A 1 (l.map bC)
theorem byte_at {w : World} {A : Option Addr} {l : List Int} (h : BytesR w A l) {i : Nat} {x : Int} (hx : l[i]? = some x) : ∃ b off, A = some ⟨b, off, none⟩ ∧ b < w.heap.size ∧ w.cell? ⟨b, off + i, none⟩ = some (.int .u8 x) := by
  obtain ⟨b, off, hA, hb, hc⟩ := h i (bC x) (by rw [List.getElem?_map, hx]; rfl)
  have := hc 0 _ rfl
  rw [Nat.mul_one] at this
  exact ⟨b, off, hA, hb, this⟩
theorem rowsAt_own {β : Type} (A : Option Addr) (k : Nat) (rows : List (List Value)) : Go.Own (fun (_ : β) W => RowsAt W A k rows) := fun s X Y row hs hg hr => fun i r hi => by
  obtain ⟨b, off, hA, hlt, hc⟩ := hs i r hi
  exact ⟨b, off, hA, Nat.lt_of_lt_of_le hlt hg.size, fun j v hv => cell_kept (hc j v hv) hg hr⟩
theorem room_none (k : Nat) : Fence.wide.room k := fun d h => by cases h
theorem yield_deep {m : Nat} (m' l' : Nat) {P : Program} {l : Nat} {args : Array Value} {W : World} {R : Ending → World → Prop} (h : YieldAt Fence.wide m P l args W R) : YieldAt (Fence.wide.inRound l') m' P l args W R := by
  obtain ⟨fn, tmps, assign, body, hy, h1, h2⟩ := h
  exact ⟨fn, tmps, assign, body, hy, h1, fun c cs _ => h2 c cs (room_none _)⟩

theorem kpC_t {n₀ Bs Bn : Nat} {A B C : World} (h1 : Below n₀ A B ∧ B.heap[Bs]? = A.heap[Bs]? ∧ B.heap[Bn]? = A.heap[Bn]?) (h2 : Below n₀ B C ∧ C.heap[Bs]? = B.heap[Bs]? ∧ C.heap[Bn]? = B.heap[Bn]?) : Below n₀ A C ∧ C.heap[Bs]? = A.heap[Bs]? ∧ C.heap[Bn]? = A.heap[Bn]? :=
  ⟨h1.1.trans h2.1, h2.2.1.trans h1.2.1, h2.2.2.trans h1.2.2⟩
theorem rows_same {W W' : World} {g off k : Nat} {rows : List (List Value)} (h : RowsAt W (some ⟨g, off, none⟩) k rows) (hg : W'.heap[g]? = W.heap[g]?) (hs : W.heap.size ≤ W'.heap.size) : RowsAt W' (some ⟨g, off, none⟩) k rows := fun i r hr => by
  obtain ⟨b, off', hA, hlt, hc⟩ := h i r hr
  injection hA with hA
  injection hA with e1 e2 _
  subst e1 e2
  have hcc : ∀ k, W'.cell? ⟨g, k, none⟩ = W.cell? ⟨g, k, none⟩ := fun k => by
    unfold World.cell?
    simp only [hg]
  exact ⟨g, off, rfl, Nat.lt_of_lt_of_le hlt hs, fun j v hv => (hcc _).trans (hc j v hv)⟩
theorem size_own {β : Type} (m : Nat) : Go.Own (fun (_ : β) W => m ≤ W.heap.size) := fun _ _ _ _ hs hg _ => Nat.le_trans hs hg.size
/-- What a round keeps: what lay below; the captured box; from the iterator's blocks on all but rows of words. -/
def KpW (n₀ Bn B2 : Nat) (A B : World) : Prop := Below n₀ A B ∧ B.heap[Bn]? = A.heap[Bn]? ∧ (∀ (k : Nat) (t : TypeId) (cs : Array Value), B2 ≤ k → t ≠ 26 → Blk A k t cs → Blk B k t cs) ∧ ∀ (k : Nat) (o : Obj), B2 ≤ k → A.heap[k]? = some o → o.isCells = false → B.heap[k]? = some o
theorem bytesL_at : ∀ {ws : List Int} {k : Nat} {x : Int} {j : Nat}, ws[k]? = some x → j < 4 → (bytesL ws)[4 * k + j]? = (b4 x)[j]?
  | [], k, x, j, h, _ => by simp at h
  | y :: ws, 0, x, j, h, hj => by
    simp only [List.getElem?_cons_zero, Option.some.injEq] at h
    subst h
    unfold bytesL
    rw [List.flatMap_cons, Nat.mul_zero, Nat.zero_add, List.getElem?_append_left (by simp [b4]; omega)]
  | y :: ws, k + 1, x, j, h, hj => by
    rw [List.getElem?_cons_succ] at h
    have ih := bytesL_at h hj
    unfold bytesL at ih ⊢
    rw [List.flatMap_cons, List.getElem?_append_right (by simp [b4]; omega), ← ih]
    congr 1
    simp [b4]; omega
def encF (ws : List Int) (len : Nat) (x : Fin (C4.chunks len)) : Array Value := #[.int .u32 (ws.getD x.val 0), .bool true]
def pw (b0 b1 b2 b3 : Int) (k : Nat) : Int := (if 0 < k then b0 else 0) + (if 1 < k then b1 * 256 else 0) + (if 2 < k then b2 * 65536 else 0) + (if 3 < k then b3 * 16777216 else 0)
theorem fours_in (n : Nat) (A : Option Addr) (len cap : Nat) (w : World) :
    CallsIn Fence.wide n Try.prog 54 #[.slice A len cap] w fun e w' => e = .returned (.func (.func 67) #[] #[.pointer (some ⟨w.heap.size, 0, none⟩)]) ∧ w' = w.alloc (.cells #[.slice A len cap] 50) := by
  refine callsIn_of_wp Try.func54 rfl trivial ?_ rfl
  simp only [Try.ntmps54, List.size_toArray, List.length_cons, List.length_nil, Nat.reduceAdd, Nat.reduceSub, Array.replicate_succ, Array.replicate_zero, List.push_toArray, List.append_toArray, List.nil_append, List.cons_append]
  gi_wp2
  go_ret
  exact ⟨rfl, rfl⟩
theorem or_step (k : Nat) (hk : k ≤ 24) {acc x : Int} (h0 : 0 ≤ acc) (h1 : acc < 2 ^ k) (h2 : 0 ≤ x) (h3 : x < 4294967296) (hm : x % 2 ^ k = 0) : bits .or .u32 acc x = acc + x := by
  have p32 : (2 : Int) ^ 32 = 4294967296 := by decide
  refine bits_join_low .u32 32 (by decide) wraps_u32 k acc x h0 h1 ?_ h2 hm (by rw [p32]; omega)
  rw [p32]
  have : (2 : Int) ^ k ≤ 2 ^ 24 := by
    have := Nat.pow_le_pow_right (n := 2) (by decide) hk
    exact_mod_cast this
  have p24 : (2 : Int) ^ 24 = 16777216 := by decide
  omega

set_option maxRecDepth 100000 in
set_option maxHeartbeats 4000000 in
theorem fours_seq (n : Nat) (hn : 12 ≤ n) (l n₀ Bn g off cv len : Nat) (ws : List Int) (hws : ∀ x ∈ ws, 0 ≤ x ∧ x ≤ 4294967295) (hlen : len = 4 * ws.length) (hw4 : ws.length ≤ 1024) (hcv : len ≤ cv) (hcm : cv ≤ 9223372036854775807) (A : Option Addr) (hAe : 0 < len → A = some ⟨g, off, none⟩)
    (W : World) (hBn : Blk W Bn 50 #[.slice A len cv]) (hA : BytesR W (some ⟨g, off, none⟩) (bytesL ws)) (hn₀ : n₀ ≤ W.heap.size) (hgn : 0 < len → g < n₀) :
    SeqP Fence.wide n Try.prog 67 #[.pointer (some ⟨Bn, 0, none⟩)] (encF ws len) (fun _ _ => True) (fun _ _ => True) (KpW n₀ Bn W.heap.size) (fun ys => ys = List.finRange (C4.chunks len)) (fun pre => pre <+: List.finRange (C4.chunks len)) (C4.chunks len) l W := by
  intro J Jx hJ hJx hY hs0
  have hn1 : 1 ≤ n := by omega
  have x0 := hBn.cell 0
  have xlt := hBn.lt
  simp only [List.getElem?_toArray, List.getElem?_cons_zero] at x0
  have hY0 := (Below.refl W.heap.size W).alloc (Nat.le_refl _) (.cells #[.func (.yield l) #[] #[]] 134)
  have hYb := Blk.new W 134 #[.func (.yield l) #[] #[]]
  have HB0 := Lib.hid hY0
  have HYB := Lib.hid hYb
  have HBN := Lib.hid hBn
  have HS := Lib.hid hs0
  have HLEN := Lib.hid hlen
  have HWS := Lib.hid hws
  have HAE := Lib.hid hAe
  have HGN := Lib.hid hgn
  have hl6 : len ≤ 1000000 := by omega
  clear hlen hws hAe hgn
  have HG := Lib.hid (show BytesR _ _ _ from RowsAt.below hA hY0)
  clear hY0 hYb hs0 hBn hA
  refine callsIn_of_wp_marks Try.func67 rfl trivial ?_ rfl
  simp only [Try.ntmps67, List.size_toArray, List.length_cons, List.length_nil, Nat.reduceAdd, Nat.reduceSub, Array.replicate_succ, Array.replicate_zero, List.push_toArray, List.append_toArray, List.nil_append, List.cons_append]
  gi_wp2_with (refine ⟨trivial, ?_⟩; gi_at_call 68; refine (C4.chunk_in Fence.wide _ trivial rfl _ _ _ _).mono ?_; rintro e w4 ⟨rfl, rfl⟩)
  obtain ⟨W1, hW1⟩ : ∃ W1, W.alloc (.cells #[.func (.yield l) #[] #[]] 134) = W1 := ⟨_, rfl⟩
  have hsz1 : W1.heap.size = W.heap.size + 1 := by rw [← hW1]; simp
  rw [hW1] at HB0 HYB HG ⊢
  clear hW1
  have bS := (Blk.new W1 50 #[.slice A len cv]).alloc (.cells #[.int .i64 4] 3)
  have bN := Blk.new (W1.alloc (.cells #[.slice A len cv] 50)) 3 #[.int .i64 4]
  rw [World.size_alloc] at bN
  have hB14 := ((Below.refl W1.heap.size W1).alloc (Nat.le_refl _) (.cells #[.slice A len cv] 50)).alloc (by simp) (.cells #[.int .i64 4] 3)
  have hB4 := (HB0.out.alloc (by omega) (.cells #[.slice A len cv] 50)).alloc (by simp; omega) (.cells #[.int .i64 4] 3)
  have hY4 := (HYB.out.alloc (.cells #[.slice A len cv] 50)).alloc (.cells #[.int .i64 4] 3)
  have hG4 := RowsAt.below HG.out hB14
  have hsz4 : ((W1.alloc (.cells #[.slice A len cv] 50)).alloc (.cells #[.int .i64 4] 3)).heap.size = W1.heap.size + 2 := by simp
  obtain ⟨W4, hW4⟩ : ∃ W4, (W1.alloc (.cells #[.slice A len cv] 50)).alloc (.cells #[.int .i64 4] 3) = W4 := ⟨_, rfl⟩
  rw [hW4] at bS bN hB4 hY4 hG4 hsz4 ⊢
  rw [hsz1] at bS bN hsz4
  clear hW4 hB14
  have HXV := Lib.hid (fun (x : Fin (C4.chunks len)) => show C4.encC g off len x = #[.slice (some ⟨g, off + 4 * x.val, none⟩) 4 4] from by
    have hx := x.isLt
    have hl := HLEN.out
    have h4 : C4.chunkLen len x.val = 4 := by
      unfold C4.chunkLen
      unfold C4.chunks at hx
      omega
    unfold C4.encC
    rw [h4])
  refine wpIn_rangeFunc_ownH rfl hn1 (gf := 70) (lb := #[.pointer (some ⟨W.heap.size + 1, 0, none⟩), .pointer (some ⟨W.heap.size + 1 + 1, 0, none⟩)]) rfl trivial (enters_of Try.func70 (by kernel_rfl) rfl)
    (C4.chunk_stops (n - 1) (by omega) (W.heap.size + 1) (W.heap.size + 1 + 1) n₀ g off len cv A HAE.out hcv hl6 hcm W4 bS bN) kpC_t (fun W l o o' hl h h1 h2 => ⟨belowK_b (by omega) W l o o' hl h h1 h2, World.putObj_heap_other (by omega), World.putObj_heap_other (by omega)⟩) (Below.refl _ _) (fun _ => rfl)
    (fun pre W' => J W4.heap.size pre W' ∧ Blk W' W.heap.size 134 #[.func (.yield l) #[] #[]] ∧ BytesR W' (some ⟨g, off, none⟩) (bytesL ws) ∧ Blk W' (W.heap.size + 1) 50 #[.slice A len cv] ∧ Blk W' (W.heap.size + 1 + 1) 3 #[.int .i64 4] ∧ W4.heap.size ≤ W'.heap.size)
    (fun cc pre W' => cc = .ret ∧ Jx W4.heap.size pre W')
    (OwnFrom.and (fun s X Y row hs hg hr => (hJ W4.heap.size).from_ (B' := W4.heap.size) (by omega) s X Y row hs hg hr) (OwnFrom.and (Go.Own.from (blk_own _ _ (fun _ => #[.func (.yield l) #[] #[]])) _) (OwnFrom.and (Go.Own.from (rowsAt_own _ _ _) _) (OwnFrom.and (Go.Own.from (blk_own _ _ (fun _ => #[.slice A len cv])) _) (OwnFrom.and (Go.Own.from (blk_own _ _ (fun _ => #[.int .i64 4])) _) (Go.Own.from (size_own _) _))))))
    (fun cc s X Y row hs hg hr => ⟨hs.1, (hJx W4.heap.size).from_ (B' := W4.heap.size) (by omega) s X Y row hs.2 hg hr⟩)
    ⟨(hJ _).below (HS.out _) hB4, hY4, hG4, bS, bN, Nat.le_refl _⟩
    (fun x a' _ => a' = { tmps := #[.func (.yield l) #[] #[], .pointer (some ⟨Bn, 0, none⟩), .pointer (some ⟨W.heap.size, 0, none⟩), .slice (some ⟨g, off + 4 * x.val, none⟩) 4 4, undef, undef, undef, .slice A len cv,
      .func (.func 70) #[] #[.pointer (some ⟨W.heap.size + 1, 0, none⟩), .pointer (some ⟨W.heap.size + 1 + 1, 0, none⟩)], .slice (some ⟨g, off + 4 * x.val, none⟩) 4 4, undef, undef, undef, undef, undef, undef, undef, undef, undef, undef, undef, undef, undef, undef, undef, undef, undef, undef, undef, undef, undef, undef], defers := [] })
    (fun x a' _ X Y row hs hg hr => hs)
    ?assign ?body ?done ?stop
  case assign =>
    rintro l' pre x W' K ⟨hj, hYb, hBb, hcS, hcN, hsz⟩ hK
    rw [HXV.out x]
    gi_wp2
    exact hK _ _ (KeepsFrom.refl _ _) ⟨Below.refl _ _, rfl, rfl⟩ ⟨hj, hYb, hBb, hcS, hcN, hsz⟩ rfl
  case body =>
    rintro l' pre x a' W' hl' hr' ⟨hj, hYb, hBb, hcS, hcN, hsz⟩ rfl hlt
    have y0 := hYb.cell 0
    have ylt := hYb.lt
    simp only [List.getElem?_toArray, List.getElem?_cons_zero] at y0
    obtain ⟨k, hkx⟩ : ∃ k, k = x.val := ⟨_, rfl⟩
    have hkl : k < ws.length := by
      have h1 := x.isLt
      have h2 := HLEN.out
      unfold C4.chunks at h1
      omega
    have hv : ws[k]? = some ws[k] := List.getElem?_eq_getElem hkl
    have hvm : ws[k] ∈ ws := List.getElem_mem hkl
    have hvr := HWS.out _ hvm
    have hpos : 0 < len := by have := HLEN.out; omega
    have hgn' := HGN.out hpos
    have henc : encF ws len x = #[.int .u32 ws[k], .bool true] := by
      unfold encF
      rw [List.getD_eq_getElem?_getD, ← hkx, hv]; rfl
    have hyd := hY W4.heap.size pre x W' (by omega) hsz hj trivial trivial hlt
    rw [henc] at hyd
    have hyd := yield_deep (n - 1 - 1 - 1) l' hyd
    obtain ⟨fn, tmps, assign, body, hy, hR⟩ := hyd
    have HR := Lib.hid hR
    clear hR
    have hbb : ∀ j b, j < 4 → (b4 ws[k])[j]? = some b → W'.cell? ⟨g, off + 4 * k + j, none⟩ = some (.int .u8 b) ∧ g < W'.heap.size := fun j b hj hb => by
      obtain ⟨g', o', e, hlt', hc⟩ := byte_at hBb ((bytesL_at hv hj).trans hb)
      injection e with e
      injection e with e1 e2 _
      subst e1 e2
      exact ⟨by rw [Nat.add_assoc]; exact hc, hlt'⟩
    rw [← hkx]
    clear henc hv hvm hkx
    generalize ws[k] = v at *
    obtain ⟨c0, glt⟩ := hbb 0 (v % 256) (by decide) rfl
    obtain ⟨c1, _⟩ := hbb 1 (v / 256 % 256) (by decide) rfl
    obtain ⟨c2, _⟩ := hbb 2 (v / 65536 % 256) (by decide) rfl
    obtain ⟨c3, _⟩ := hbb 3 (v / 16777216) (by decide) rfl
    rw [Nat.add_zero] at c0
    have hpw4 : pw (v % 256) (v / 256 % 256) (v / 65536 % 256) (v / 16777216) 4 = v := by unfold pw; simp; omega
    have HP4 := Lib.hid hpw4
    have h0 : 0 ≤ v % 256 ∧ v % 256 < 256 := by omega
    have h1 : 0 ≤ v / 256 % 256 ∧ v / 256 % 256 < 256 := by omega
    have h2 : 0 ≤ v / 65536 % 256 ∧ v / 65536 % 256 < 256 := by omega
    have h3 : 0 ≤ v / 16777216 ∧ v / 16777216 < 256 := by omega
    clear hbb hpw4
    rw [← HP4.out] at hy
    generalize v % 256 = b0 at *
    generalize v / 256 % 256 = b1 at *
    generalize v / 65536 % 256 = b2 at *
    generalize v / 16777216 = b3 at *
    have HPW := Lib.hid (show pw b0 b1 b2 b3 0 = 0 ∧ bits .or .u32 (pw b0 b1 b2 b3 0) b0 = pw b0 b1 b2 b3 1 ∧ bits .or .u32 (pw b0 b1 b2 b3 1) (b1 * 256) = pw b0 b1 b2 b3 2 ∧ bits .or .u32 (pw b0 b1 b2 b3 2) (b2 * 65536) = pw b0 b1 b2 b3 3 ∧ bits .or .u32 (pw b0 b1 b2 b3 3) (b3 * 16777216) = pw b0 b1 b2 b3 4 from by
      have e0 : pw b0 b1 b2 b3 0 = 0 := by unfold pw; simp
      have e1 : pw b0 b1 b2 b3 1 = b0 := by unfold pw; simp
      have e2 : pw b0 b1 b2 b3 2 = b0 + b1 * 256 := by unfold pw; simp
      have e3 : pw b0 b1 b2 b3 3 = b0 + b1 * 256 + b2 * 65536 := by unfold pw; simp
      have e4 : pw b0 b1 b2 b3 4 = b0 + b1 * 256 + b2 * 65536 + b3 * 16777216 := by unfold pw; simp
      have p0 : (2 : Int) ^ 0 = 1 := by decide
      have p8 : (2 : Int) ^ 8 = 256 := by decide
      have p16 : (2 : Int) ^ 16 = 65536 := by decide
      have p24 : (2 : Int) ^ 24 = 16777216 := by decide
      rw [e0, e1, e2, e3, e4]
      refine ⟨rfl, ?_, ?_, ?_, ?_⟩
      · rw [or_step 0 (by omega) (by omega) (by rw [p0]; omega) (by omega) (by omega) (by rw [p0]; omega)]; omega
      · rw [or_step 8 (by omega) (by omega) (by rw [p8]; omega) (by omega) (by omega) (by rw [p8]; omega)]
      · rw [or_step 16 (by omega) (by omega) (by rw [p16]; omega) (by omega) (by omega) (by rw [p16]; omega)]
      · rw [or_step 24 (by omega) (by omega) (by rw [p24]; omega) (by omega) (by omega) (by rw [p24]; omega)])
    have HYB' := Lib.hid hYb
    have HBB := Lib.hid hBb
    have HCS := Lib.hid hcS
    have HCN := Lib.hid hcN
    have HGN2 := Lib.hid hgn'
    clear hYb hBb hG4 hY4 bS bN hj hcS hcN hgn' hvr hpos
    gi_wp2
    gi_loopw [4, 12] (fun v i wr => wr = W' ∧ ∃ k : Nat, i = .int .i64 (k : Int) ∧ k ≤ 4 ∧ v = .int .u32 (pw b0 b1 b2 b3 k)) (fun _ i _ => 4 - (intOf i).toNat)
    case atStart => exact ⟨rfl, 0, rfl, by omega, by rw [HPW.out.1]⟩
    case round =>
      obtain ⟨rfl, k, rfl, hk, rfl⟩ := hrel
      rcases (show k = 0 ∨ k = 1 ∨ k = 2 ∨ k = 3 ∨ k = 4 by omega) with rfl | rfl | rfl | rfl | rfl
      · gi_wp2
        go_roundw
        case rel => exact ⟨trivial, 1, by go_num, by omega, by rw [← HPW.out.2.1]⟩
        case measure => simp [intOf]
      · gi_wp2
        go_roundw
        case rel => exact ⟨trivial, 2, by go_num, by omega, by rw [← HPW.out.2.2.1]⟩
        case measure => simp [intOf]
      · gi_wp2
        go_roundw
        case rel => exact ⟨trivial, 3, by go_num, by omega, by rw [← HPW.out.2.2.2.1]⟩
        case measure => simp [intOf]
      · gi_wp2
        go_roundw
        case rel => exact ⟨trivial, 4, by go_num, by omega, by rw [← HPW.out.2.2.2.2]⟩
        case measure => simp [intOf]
      · gi_wp2
        refine ⟨fun _ => by omega, HR.out.mono ?_⟩
        rintro e W5 ⟨⟨hbl5, hbn5, hk5, ho5⟩, (⟨rfl, hj5⟩ | ⟨rfl, hj5⟩)⟩
        · gi_wp2
          have hs5 := hbl5.size
          have hcS5 := hk5 _ _ _ (by omega) (by decide) HCS.out
          have hcN5 := hk5 _ _ _ (by omega) (by decide) HCN.out
          exact ⟨⟨by omega, fun k o hk h0 ho => ho5 k o (by omega) h0 ho⟩, ⟨hbl5, Eq.trans hcS5 (Eq.symm HCS.out), Eq.trans hcN5 (Eq.symm HCN.out)⟩, hj5, hk5 _ _ _ (by omega) (by decide) HYB'.out, rows_same HBB.out (hbl5.block g HGN2.out) (by omega), hcS5, hcN5, by omega⟩
        · gi_wp2
          have hs5 := hbl5.size
          exact ⟨⟨hs5, fun k o hk h0 ho => ho5 k o (by omega) h0 ho⟩, rfl, hj5⟩
  case done =>
    rintro D ys W' hD rfl ⟨hj, hYb, hBb, hcS, hcN, hsz⟩ hK
    gi_wp2
    refine ⟨by simp, .inl ⟨_, _, rfl, run_takeDeferred hK, ?_⟩⟩
    exact ⟨_, results_none rfl _ _ _, ⟨_, rfl⟩, W4.heap.size, by omega, .inl ⟨_, rfl, (hJ _).putObj _ hj (by omega) hK rfl⟩⟩
  case stop =>
    rintro D cc pre W' hD hpre' ⟨rfl, hj⟩ hK
    gi_wp2
    refine ⟨by simp, .inl ⟨_, _, rfl, run_takeDeferred hK, ?_⟩⟩
    exact ⟨_, results_none rfl _ _ _, ⟨_, rfl⟩, W4.heap.size, by omega, .inr ⟨_, hpre', (hJx _).putObj _ hj (by omega) hK rfl⟩⟩
end
section
open Go.RowKit Go.Shelf
set_option linter.unusedVariables false
set_option linter.unusedSimpArgs false
attribute [local go_sem] Oper.semAt_some

theorem infoW : (Try.prog.info? 26).map (fun i => (i.zero, i.size, i.bytes)) = some (some (.int .u32 0), 1, 4) := by kernel_rfl
def wl (ws : List Int) {len : Nat} (pre : List (Fin len)) : List Int := pre.map fun x => ws.getD x.val 0
theorem wl_len (ws : List Int) {len : Nat} (pre : List (Fin len)) : (wl ws pre).length = pre.length := List.length_map ..
theorem wl_app (ws : List Int) {len : Nat} (pre : List (Fin len)) (x : Fin len) : wl ws (pre ++ [x]) = wl ws pre ++ [ws.getD x.val 0] := by unfold wl; rw [List.map_append]; rfl
theorem wl_all (ws : List Int) (n : Nat) (hn : n = ws.length) : wl ws (List.finRange n) = ws := by
  refine List.ext_getElem? fun i => ?_
  unfold wl
  rw [List.getElem?_map]
  by_cases hi : i < n
  · rw [List.getElem?_eq_getElem (by simpa using hi)]
    simp only [List.getElem_finRange, Option.map_some]
    rw [List.getD_eq_getElem?_getD, List.getElem?_eq_getElem (by omega)]; simp
  · rw [List.getElem?_eq_none (by simpa using Nat.le_of_not_lt hi), List.getElem?_eq_none (by omega)]; rfl
theorem KpW.t {n₀ Bn B2 : Nat} {A B C : World} (h : KpW n₀ Bn B2 A B) (k : KpW n₀ Bn B2 B C) : KpW n₀ Bn B2 A C :=
  ⟨h.1.trans k.1, k.2.1.trans h.2.1, fun i t cs h1 h2 hb => k.2.2.1 i t cs h1 h2 (h.2.2.1 i t cs h1 h2 hb), fun i o h1 h2 h3 => k.2.2.2 i o h1 (h.2.2.2 i o h1 h2 h3) h3⟩
theorem KpW.r (n₀ Bn B2 : Nat) (A : World) : KpW n₀ Bn B2 A A := ⟨Below.refl _ _, rfl, fun _ _ _ _ _ h => h, fun _ _ _ h _ => h⟩
theorem KpW.b {n₀ Bn B2 l : Nat} (W : World) (o' : Obj) (h1 : n₀ ≤ l) (h2 : Bn < l) (h3 : l < B2) : KpW n₀ Bn B2 W (W.putObj l o') :=
  ⟨⟨rfl, rfl, rfl, by simp [World.putObj], fun k hk => World.putObj_heap_other (by omega)⟩, World.putObj_heap_other (by omega), fun k t cs hk _ hb => (World.putObj_heap_other (by omega)).trans hb, fun k o hk h0 _ => (World.putObj_heap_other (by omega)).trans h0⟩
/-- What lies while Words goes on. -/
structure WN (w : World) (C : Nat) (l : List Int) (W : World) : Prop where
  out : ∃ v, Blk W w.heap.size 31 #[v] ∧ W.ownsRow C 26 1 v l.length (l.map fun x => Value.int .u32 x)
  fine : Blk W (w.heap.size + 1) 4 #[.bool true]
  lo : Below w.heap.size w W
  sz : w.heap.size + 3 ≤ W.heap.size
theorem WN.priv {w : World} {C : Nat} {l : List Int} {W W' : World} {row : Option Nat} (hs : WN w C l W) (hg : W.grownBy W' row) (hr : ∀ r, row = some r → w.heap.size + 3 ≤ r ∧ (r < C ∨ ∃ o : Obj, W.heap[r]? = some o ∧ o.isCells = false)) : WN w C l W' := by
  obtain ⟨v, hv, hrow⟩ := hs.out
  refine ⟨⟨v, hv.grown hg (fun e => by have := (hr _ e.symm).1; omega), hrow.kept hg ?_⟩, hs.fine.grown hg (fun e => by have := (hr _ e.symm).1; omega), hs.lo.grown hg (by have := hs.lo.size; omega) (fun k e => by have := (hr k e).1; omega), Nat.le_trans hs.sz hg.size⟩
  cases hb : v.ownBlock with
  | none => exact .inl rfl
  | some r =>
    refine .inr (fun e => ?_)
    obtain ⟨hr1, cur, hr2⟩ := row_block hrow hb
    rcases (hr r e.symm).2 with h3 | ⟨o, ho, hc⟩
    · omega
    · rw [show W.heap[r]? = _ from hr2] at ho
      cases ho
      cases hc
/-- The row behind the store of `fine`, and a new block. -/
theorem WN.step {w : World} {C : Nat} {l : List Int} {W : World} (h : WN w C l W) (hN : w.heap.size + 5 ≤ C) (o : Obj) : ∃ vo, Blk W w.heap.size 31 #[vo] ∧ Blk ((W.setCell ⟨w.heap.size + 1, 0, none⟩ (.bool true)).alloc o) w.heap.size 31 #[vo] ∧ ((W.setCell ⟨w.heap.size + 1, 0, none⟩ (.bool true)).alloc o).ownsRow C 26 1 vo l.length (l.map fun x => Value.int .u32 x) ∧
    Blk ((W.setCell ⟨w.heap.size + 1, 0, none⟩ (.bool true)).alloc o) (w.heap.size + 1) 4 #[.bool true] ∧ Below w.heap.size w ((W.setCell ⟨w.heap.size + 1, 0, none⟩ (.bool true)).alloc o) := by
  obtain ⟨v, hv, hrow⟩ := h.out
  have hr2 : (W.setCell ⟨w.heap.size + 1, 0, none⟩ (.bool true)).ownsRow C 26 1 v l.length (l.map fun x => Value.int .u32 x) := by
    refine hrow.kept (grownBy_setCell' W (w.heap.size + 1) _) ?_
    cases hb : v.ownBlock with
    | none => exact .inl rfl
    | some r =>
      refine .inr (fun e => ?_)
      obtain ⟨hr1, _⟩ := row_block hrow hb
      injection e with e
      omega
  have hlo2 := h.lo.setCell (p := ⟨w.heap.size + 1, 0, none⟩) (by show w.heap.size ≤ w.heap.size + 1; omega) (.bool true)
  exact ⟨v, hv, (hv.far (p := ⟨w.heap.size + 1, 0, none⟩) (by show w.heap.size ≠ w.heap.size + 1; omega) _).alloc o, hr2.alloc o, (show Blk (W.setCell ⟨w.heap.size + 1, 0, none⟩ (.bool true)) (w.heap.size + 1) 4 #[.bool true] from h.fine.set_ 0 _).alloc o, bl_new hlo2 o⟩
theorem WN.more {w W V w9 : World} {C : Nat} {l : List Int} {c : Int} {vo v' : Value} (hlo : Below w.heap.size w V) (hsz : w.heap.size + 3 ≤ V.heap.size) (hfi : Blk V (w.heap.size + 1) 4 #[.bool true]) (hvo : Blk V w.heap.size 31 #[vo]) (hro : V.ownsRow C 26 1 vo l.length (l.map fun x => Value.int .u32 x)) (hg : V.grownBy w9 vo.ownBlock) (hN : w.heap.size + 5 ≤ C) (hWs : w.heap.size + 3 ≤ W.heap.size) (hWV : W.heap.size ≤ V.heap.size) (hsame : ∀ k, k < W.heap.size → k ≠ w.heap.size + 1 → V.heap[k]? = W.heap[k]?) (hWb : Below w.heap.size W V)
    (hn : w9.ownsRow C 26 1 v' (l.length + 1) ((l.map fun x => Value.int .u32 x) ++ [Value.int .u32 c])) :
    (KeepsFrom (w.heap.size + 3) W (w9.setCell ⟨w.heap.size, 0, none⟩ v') ∧ KpW w.heap.size (w.heap.size + 2) (w.heap.size + 5) W (w9.setCell ⟨w.heap.size, 0, none⟩ v')) ∧ WN w C (l ++ [c]) (w9.setCell ⟨w.heap.size, 0, none⟩ v') ∧ Blk w9 w.heap.size 31 #[vo] := by
  have hnl : ∀ k, k < C → some k ≠ vo.ownBlock := fun k hk e => by
    obtain ⟨h1, _⟩ := row_block hro e.symm
    omega
  have hsz9 := hg.size
  have hvN := hvo.grown hg (hnl _ (by omega))
  have hall : ∀ k o, k < W.heap.size → k ≠ w.heap.size + 1 → k ≠ w.heap.size → W.heap[k]? = some o → (∀ cur, o ≠ .cells cur 26) → (w9.setCell ⟨w.heap.size, 0, none⟩ v').heap[k]? = some o := fun k o hk h1 h2 ho hc => by
    refine (Below.heap_setCell _ _ _ k (by show k ≠ w.heap.size; omega)).trans ?_
    refine (hg.block k (by omega) (fun e => ?_)).trans ((hsame k hk h1).trans ho)
    obtain ⟨_, cur, hr2⟩ := row_block hro e.symm
    have := (hsame k hk h1).trans ho
    rw [show V.heap[k]? = _ from hr2] at this
    exact hc cur (Option.some.inj this).symm
  have hlow : Below w.heap.size W (w9.setCell ⟨w.heap.size, 0, none⟩ v') := (hWb.grown hg (by omega) (fun k e => by obtain ⟨h1, _⟩ := row_block hro e; omega)).setCell (by show w.heap.size ≤ w.heap.size; omega) _
  refine ⟨⟨⟨by simp [World.setCell]; omega, fun k o hk h0 ho => hall k o (Array.getElem?_eq_some_iff.1 h0).1 (by omega) (by omega) h0 (fun cur e => by rw [e] at ho; cases ho)⟩, hlow, ?_, fun k t cs hk ht hb => hall k _ hb.lt (by omega) (by omega) hb (fun cur e => by injection e with _ e _; exact ht e), fun k o hk h0 ho => hall k o (Array.getElem?_eq_some_iff.1 h0).1 (by omega) (by omega) h0 (fun cur e => by rw [e] at ho; cases ho)⟩, ⟨⟨v', hvN.set_ 0 _, ?_⟩, ?_, ?_, ?_⟩, hvN⟩
  · exact (Below.heap_setCell _ _ _ (w.heap.size + 2) (by show w.heap.size + 2 ≠ w.heap.size; omega)).trans ((hg.block (w.heap.size + 2) (by omega) (hnl _ (by omega))).trans (hsame _ (by omega) (by omega)))
  · rw [List.length_append, List.map_append]
    refine hn.kept (grownBy_setCell' w9 w.heap.size v') ?_
    cases hb : v'.ownBlock with
    | none => exact .inl rfl
    | some r =>
      refine .inr (fun e => ?_)
      obtain ⟨hr1, _⟩ := row_block hn hb
      injection e with e
      omega
  · exact (hfi.grown hg (hnl _ (by omega))).far (by show w.heap.size + 1 ≠ w.heap.size; omega) _
  · exact (hlo.grown hg (by omega) (fun k e => by obtain ⟨h1, _⟩ := row_block hro e; omega)).setCell (by show w.heap.size ≤ w.heap.size; omega) _
  · simp [World.setCell]; omega
set_option maxRecDepth 100000 in
set_option maxHeartbeats 4000000 in
theorem words_in (n : Nat) (hn : 16 ≤ n) (g off cv len : Nat) (ws : List Int) (hws : ∀ x ∈ ws, 0 ≤ x ∧ x ≤ 4294967295) (hlen : len = 4 * ws.length) (hw4 : ws.length ≤ 1024) (hcv : len ≤ cv) (hcm : cv ≤ 9223372036854775807) (A : Option Addr) (hAe : 0 < len → A = some ⟨g, off, none⟩)
    (w : World) (hA : BytesR w (some ⟨g, off, none⟩) (bytesL ws)) (hgn : 0 < len → g < w.heap.size) :
    CallsIn Fence.wide n Try.prog 33 #[.slice A len cv] w fun e W' => ∃ v, e = .returned (.tuple #[v, .int .i64 0]) ∧ W'.ownsRow w.heap.size 26 1 v ws.length (ws.map fun x => Value.int .u32 x) ∧ Below w.heap.size w W' := by
  have hn1 : 1 ≤ n := by omega
  have HFI := Lib.hid (fun W => fours_in (n - 1) A len cv W)
  obtain ⟨i0, hi, hz0, hz1, hz2⟩ := info_parts infoW
  have HLEN := Lib.hid hlen
  have HWS := Lib.hid hws
  have HAE := Lib.hid hAe
  have HGN := Lib.hid hgn
  have HA := Lib.hid hA
  have HCV := Lib.hid hcv
  have HCM := Lib.hid hcm
  have HN := Lib.hid (show C4.chunks len = ws.length from by unfold C4.chunks; omega)
  clear hlen hws hAe hgn hA hcv hcm
  refine callsIn_of_wp_marks Try.func33 rfl trivial ?_ rfl
  simp only [Try.ntmps33, List.size_toArray, List.length_cons, List.length_nil, Nat.reduceAdd, Nat.reduceSub, Array.replicate_succ, Array.replicate_zero, List.push_toArray, List.append_toArray, List.nil_append, List.cons_append]
  gi_wp2
  refine wpIn_scope_straight ?_
  gi_wp2
  refine wpIn_label ?_
  gi_wp2_with (refine ⟨trivial, ?_⟩; gi_at_call 54; refine (HFI.out _).mono ?_; rintro e w' ⟨rfl, rfl⟩)
  have hBO := ((Blk.new w 31 #[.slice none 0 0]).alloc (.cells #[.bool true] 4)).alloc (.cells #[.slice A len cv] 50)
  have hBF := (Blk.new (w.alloc (.cells #[.slice none 0 0] 31)) 4 #[.bool true]).alloc (.cells #[.slice A len cv] 50)
  have hBN := Blk.new ((w.alloc (.cells #[.slice none 0 0] 31)).alloc (.cells #[.bool true] 4)) 50 #[.slice A len cv]
  have hb0 := (((Below.refl w.heap.size w).alloc (Nat.le_refl _) (.cells #[.slice none 0 0] 31)).alloc (by simp) (.cells #[.bool true] 4)).alloc (by simp; omega) (.cells #[.slice A len cv] 50)
  have hA0 : BytesR _ _ _ := RowsAt.below HA.out hb0
  have hsz : (((w.alloc (.cells #[.slice none 0 0] 31)).alloc (.cells #[.bool true] 4)).alloc (.cells #[.slice A len cv] 50)).heap.size = w.heap.size + 3 := by simp
  simp only [World.size_alloc] at hBF hBN
  generalize (((w.alloc (.cells #[.slice none 0 0] 31)).alloc (.cells #[.bool true] 4)).alloc (.cells #[.slice A len cv] 50)) = W0 at *
  have HT0 := Lib.hid (fun C => (show WN w C [] W0 from ⟨⟨.slice none 0 0, hBO, World.ownsRow_nil _ _ _ _⟩, hBF, hb0, by omega⟩))
  have HY := Lib.hid (show Blk W0 (w.heap.size + 1 + 1) 50 #[.slice A len cv] ∧ BytesR W0 (some ⟨g, off, none⟩) (bytesL ws) from ⟨hBN, hA0⟩)
  clear hBO hBF hBN hb0 hA0
  refine wpIn_rangeFunc_PC (α := Fin (C4.chunks len)) rfl hn1 (gf := 67) (lb := #[.pointer (some ⟨w.heap.size + 1 + 1, 0, none⟩)]) rfl trivial (enters_of Try.func67 (by kernel_rfl) rfl)
    (Kp := KpW w.heap.size (w.heap.size + 2) (w.heap.size + 5))
    (fun W hW hs => by
      have := fours_seq (n - 1) (by omega) (W0.heap.size + 1) w.heap.size (w.heap.size + 1 + 1) g off cv len ws HWS.out HLEN.out hw4 HCV.out HCM.out A HAE.out W (HY.out.1.below hW HY.out.1.lt) (RowsAt.below HY.out.2 hW) (by have := hW.size; omega) HGN.out
      rw [show W.heap.size = w.heap.size + 5 by omega] at this
      exact this)
    (fun h k => h.t k) (fun W r o' hl => KpW.b W o' (by omega) (by omega) (by omega)) (fun _ => rfl) (w.heap.size + 3) hsz
    (fun C pre W => WN w C (wl ws pre) W)
    (fun C c pre W => False)
    (fun C s W W' row hs hg hr => hs.priv hg hr)
    (fun C c s W W' row hs hg hr => hs.elim)
    (fun C => HT0.out C)
    (fun x => [(10, .int .u32 (ws.getD x.val 0)), (11, .bool true), (6, .int .u32 (ws.getD x.val 0)), (7, .bool true)])
    ?assign ?body ?done ?stop
  case assign =>
    rintro l C pre x W K hC hI hR hK
    simp only [encF, setL] at hK ⊢
    gi_wp2
    exact hK _ (KeepsFrom.refl _ _) (KpW.r _ _ _ _) hI
  case body =>
    rintro l C pre x W hl ⟨r, hr⟩ hC1 hC2 hI hR hlt
    have hpl : (wl ws pre).length ≤ 1024 := by rw [wl_len]; have := HN.out; omega
    have HXA := Lib.hid (wl_app ws pre x)
    have HPL := Lib.hid hpl
    clear hpl hlt
    generalize ws.getD x.val 0 = c at *
    simp only [setL, List.setIfInBounds_toArray, List.set_cons_zero, List.set_cons_succ]
    generalize hsel : wl ws pre = sel at *
    clear hsel
    have HI := Lib.hid hI
    have hlo0 := hI.lo.size
    have ck := hI.fine.cell 0
    simp only [List.getElem?_toArray, List.getElem?_cons_zero] at ck
    have kf := hI.fine.frozen 0
    have kl := hI.fine.lt
    obtain ⟨vo, hv0, hvo, hro, hfi, hlo⟩ := hI.step (by omega) (.cells #[.int .u32 c] 26)
    have o0 := hv0.cell 0
    simp only [List.getElem?_toArray, List.getElem?_cons_zero] at o0
    have ol := hv0.lt
    have hs1 : (W.setCell ⟨w.heap.size + 1, 0, none⟩ (.bool true)).heap.size = W.heap.size := by simp
    have hsV : ((W.setCell ⟨w.heap.size + 1, 0, none⟩ (.bool true)).alloc (.cells #[.int .u32 c] 26)).heap.size = W.heap.size + 1 := by simp
    have HCN := Lib.hid (show ∀ (j : Nat) (u : Value), [Value.int .u32 c][j]? = some u → ((W.setCell ⟨w.heap.size + 1, 0, none⟩ (.bool true)).alloc (.cells #[.int .u32 c] 26)).cell? ((⟨W.heap.size, 0, none⟩ : Addr).add j) = some u from fun j u hu => by
      rw [Addr.add_lit, Nat.zero_add]
      have := World.cell?_alloc_mark (W.setCell ⟨w.heap.size + 1, 0, none⟩ (.bool true)) #[.int .u32 c] 26 (0, 0) j
      rw [hs1] at this
      rw [this]
      simpa using hu)
    have HSAME := Lib.hid (show ∀ k, k < W.heap.size → k ≠ w.heap.size + 1 → ((W.setCell ⟨w.heap.size + 1, 0, none⟩ (.bool true)).alloc (.cells #[.int .u32 c] 26)).heap[k]? = W.heap[k]? from fun k hk h1 => (Below.heap_alloc _ _ k (by rw [hs1]; exact hk)).trans (Below.heap_setCell W _ _ k (by show k ≠ w.heap.size + 1; exact h1)))
    have HWB := Lib.hid (show Below w.heap.size W ((W.setCell ⟨w.heap.size + 1, 0, none⟩ (.bool true)).alloc (.cells #[.int .u32 c] 26)) from ((Below.refl w.heap.size W).setCell (p := ⟨w.heap.size + 1, 0, none⟩) (by show w.heap.size ≤ w.heap.size + 1; omega) _).alloc (by rw [hs1]; omega) _)
    have HSV := Lib.hid hsV
    have HRO := Lib.hid hro
    have HVO := Lib.hid hvo
    have HFI2 := Lib.hid hfi
    have HLO := Lib.hid hlo
    have HC := Lib.hid (show w.heap.size + 5 ≤ C ∧ C ≤ W.heap.size ∧ w.heap.size + 3 ≤ W.heap.size from ⟨by omega, hC2, hI.sz⟩)
    have HB9 := Lib.hid (show sel.length + 1 ≤ maxLen ∧ (sel.length + 1) * 4 ≤ 140737488355328 from ⟨by unfold maxLen; have := HPL.out; omega, by have := HPL.out; omega⟩)
    have HCV9 := Lib.hid (show C ≤ ((W.setCell ⟨w.heap.size + 1, 0, none⟩ (.bool true)).alloc (.cells #[.int .u32 c] 26)).heap.size from by rw [hsV]; omega)
    clear hI hv0 hvo hro hfi hlo hs1 hsV hlo0 hC1 hC2
    gi_wp2_with (gi_at_builtin; refine wpListIn_append_own _ rfl _ _ 31 rfl C 26 i0 _ 1 4 Try.underlying31 hi hz0 hz1 hz2 rfl (by decide) vo _ _ rfl HRO.out ⟨W.heap.size, 0, none⟩ 1 1 [.int .u32 c] rfl rfl HCN.out (by simp [Value.oneCell']) HB9.out.1 HB9.out.2 HCV9.out ?_; intro v' w9 hown9 hgrow9 _; obtain ⟨g9, cap9, _, rfl, _, _, _⟩ := row_open hown9 (by omega); obtain ⟨hq1, hq2, hq3⟩ := WN.more HLO.out (by rw [HSV.out]; have := HC.out; omega) HFI2.out HVO.out HRO.out hgrow9 HC.out.1 HC.out.2.2 (by rw [HSV.out]; omega) HSAME.out HWB.out hown9; have HQ1 := Lib.hid hq1; have HQ2 := Lib.hid hq2; have o9 := hq3.cell 0; simp only [List.getElem?_toArray, List.getElem?_cons_zero] at o9; have f9 := hq3.frozen 0; have l9 := hq3.lt; clear hq1 hq2 hq3 hown9 hgrow9)
    show leftP _ _ _ _ _ _ .normal _ _
    refine ⟨HQ1.out.1, HQ1.out.2, ?_⟩
    show WN w C (wl ws (pre ++ [x])) _
    rw [HXA.out]
    exact HQ2.out
  case done =>
    rintro D C xs W hD hC hS hI hK
    obtain ⟨v, hv, hrow⟩ := hI.out
    have hfin : wl ws xs = ws := by
      rw [show xs = List.finRange (C4.chunks len) from hS]
      exact wl_all ws _ HN.out
    rw [hfin] at hrow
    have f0 := hI.fine.cell 0
    have flt := hI.fine.lt
    have o0 := hv.cell 0
    have olt := hv.lt
    simp only [List.getElem?_toArray, List.getElem?_cons_zero] at f0 o0
    have HROW := Lib.hid hrow
    have HLO := Lib.hid hI.lo
    clear hI hv hrow hfin hS
    gi_wp2
    refine ⟨by simp, .inl ⟨_, _, rfl, run_takeDeferred hK, ?_⟩⟩
    refine ⟨_, results_tmp2 rfl _ _ _, v, rfl, World.ownsRow.mono (HROW.out.kept (grownBy_putObj' W D _) ?_) (by omega), HLO.out.trans (belowK_b (w := w) (Nat.le_refl _) W D _ _ (by omega) hK rfl rfl)⟩
    cases hb : v.ownBlock with
    | none => exact .inl rfl
    | some r =>
      refine .inr (fun e => ?_)
      obtain ⟨_, cur, h2⟩ := row_block HROW.out hb
      injection e with e
      rw [e] at h2
      have h3 : W.heap[D]? = some (.cells cur 26) := h2
      rw [hK] at h3
      cases h3
  case stop =>
    rintro D C c pre W _ _ _ h _
    exact h.elim
end
section
open Go.RowKit Go.Shelf
set_option linter.unusedVariables false
set_option linter.unusedSimpArgs false
attribute [local go_sem] Oper.semAt_some

section
variable {w W W' : World} {fb lb cap : Nat} {F : Fs} {so bt : Nat} {q : Nat → Option Nat} {m : M}
/-- A row of bytes, told as words. -/
theorem words_row {v : Value} {len : Nat} {ws : List Int} (hws : ∀ x ∈ ws, 0 ≤ x ∧ x ≤ 4294967295) (hw4 : ws.length ≤ 1024) (hlen : len = 4 * ws.length) (hrow : W'.ownsRow W.heap.size 5 1 v len ((bytesL ws).map fun x => Value.int .u8 x)) :
    ∃ A c, v = .slice A len c ∧ Calls Try.prog 33 #[.slice A len c] W' fun e W2 => ∃ v, e = .returned (.tuple #[v, .int .i64 0]) ∧ W2.ownsRow W'.heap.size 26 1 v ws.length (ws.map fun x => Value.int .u32 x) ∧ Below W'.heap.size W' W2 := by
  rcases hrow.2 with ⟨rfl, h0⟩ | ⟨g, c, cur, rfl, hg, hblk, hcl, hcm, _⟩
  · refine ⟨none, 0, by rw [h0], ?_⟩
    have he : ws = [] := List.eq_nil_of_length_eq_zero (by omega)
    exact callsIn_wide.1 (words_in 16 (Nat.le_refl _) 0 0 0 len ws hws hlen hw4 (by omega) (by decide) none (fun h => by omega) W' (by subst he; exact fun i r hr => by simp [bytesL] at hr) (fun h => by omega))
  · have hblk : Blk W' g 5 cur := hblk
    refine ⟨some ⟨g, 0, none⟩, c, rfl, ?_⟩
    refine callsIn_wide.1 (words_in 16 (Nat.le_refl _) g 0 c len ws hws hlen hw4 hcl (by unfold maxLen at hcm; omega) (some ⟨g, 0, none⟩) (fun _ => rfl) W' (fun i r hr => ?_) (fun _ => hblk.lt))
    rw [List.getElem?_map] at hr
    cases hx : (bytesL ws)[i]? with
    | none => rw [hx] at hr; cases hr
    | some x =>
      rw [hx] at hr
      simp only [Option.map_some, Option.some.injEq] at hr
      subst hr
      refine ⟨g, 0, rfl, hblk.lt, fun j u hu => ?_⟩
      cases j with
      | zero =>
        simp [bC] at hu
        subst hu
        obtain ⟨g', c', cur', e, _, hb', hc'⟩ := row_open hrow (by have := (List.getElem?_eq_some_iff.1 hx).1; rw [bytesL_len] at this; omega)
        injection e with e
        injection e with e
        injection e with e _ _
        subst e
        have := hc' i _ (by rw [List.getElem?_map, hx]; rfl)
        rw [hb'.cell]
        simpa using this
      | succ j => simp [bC] at hu
set_option maxRecDepth 100000 in
set_option maxHeartbeats 2000000 in
theorem userWords_no (h : FS W fb lb cap F so bt q m) (hok : SpOk F m) (a n : Nat) (ha : a < 4294967296) (hn : n ≤ 1024) (hO : ¬ okK m a false (pcJ a (4 * n))) :
    Calls Try.prog 16 #[.pointer (some ⟨so, 0, none⟩), .int .u32 a, .int .i64 n] W fun e W' => e = .returned (.tuple #[.slice none 0 0, .int .i64 14]) ∧ Below W.heap.size W W' := by
  have HR := Lib.hid (spRead_no h hok a (4 * n) ha (by omega) hO)
  have h0 : ¬ (n : Int) < 0 := by omega
  have h1 : ¬ (1024 : Int) < (n : Int) := by omega
  clear h hok hO
  go_enter Try.func16, Try.ntmps16
  go_wp2_with (fail)
  refine HR.out.mono ?_
  rintro e W1 ⟨rfl, hb⟩
  have HB := Lib.hid hb
  clear hb HR
  go_wp2
  go_ret2
  exact ⟨rfl, HB.out⟩
set_option maxRecDepth 100000 in
set_option maxHeartbeats 2000000 in
theorem userWords_yes (h : FS W fb lb cap F so bt q m) (hok : SpOk F m) (a : Nat) {ws : List Int} (hws : ∀ x ∈ ws, 0 ≤ x ∧ x ≤ 4294967295) (ha : a < 4294967296) (hn : ws.length ≤ 1024) (hO : okK m a false (pcJ a (4 * ws.length))) (hb : readB F m a (4 * ws.length) = bytesL ws) :
    Calls Try.prog 16 #[.pointer (some ⟨so, 0, none⟩), .int .u32 a, .int .i64 ws.length] W fun e W' => ∃ v, e = .returned (.tuple #[v, .int .i64 0]) ∧ W'.ownsRow W.heap.size 26 1 v ws.length (ws.map fun x => Value.int .u32 x) ∧ Below W.heap.size W W' := by
  have HR := Lib.hid (spRead_yes h hok a (4 * ws.length) ha (by omega) hO)
  rw [hb] at HR
  have HWR := Lib.hid (fun (W1 : World) (v : Value) (hrow : W1.ownsRow W.heap.size 5 1 v (4 * ws.length) ((bytesL ws).map fun x => Value.int .u8 x)) => words_row hws hn rfl hrow)
  clear h hok hO hb hws
  have h0 : ¬ (ws.length : Int) < 0 := by omega
  have h1 : ¬ (1024 : Int) < (ws.length : Int) := by omega
  go_enter Try.func16, Try.ntmps16
  go_wp2_with (fail)
  refine HR.out.mono ?_
  rintro e W1 ⟨v, rfl, hrow, hb⟩
  have HB := Lib.hid hb
  obtain ⟨A, c, rfl, hw⟩ := HWR.out _ _ hrow
  have HW := Lib.hid hw
  clear hb HR HWR hrow hw
  go_wp2_with (fail)
  refine HW.out.mono ?_
  rintro e W2 ⟨v, rfl, hrow, hb⟩
  have HROW := Lib.hid hrow
  have HB2 := Lib.hid hb
  clear hb hrow HW
  go_wp2
  go_ret2
  exact ⟨v, rfl, World.ownsRow.mono HROW.out HB.out.size, bl_step HB.out HB2.out⟩
end
end
section
open Go.RowKit Go.Shelf
set_option linter.unusedVariables false
set_option linter.unusedSimpArgs false
attribute [local go_sem] Oper.semAt_some

theorem readK_get {F : Fs} {m : M} (hok : SpOk F m) (hF : F.Ok) {a n : Nat} (hO : okK m a false (pcJ a n)) : ∀ j, j ≤ pcJ a n → ∀ i, i < frK a n j → (readK F m a n j)[i]? = byteP F m (a + i)
  | 0, _, i, h => by rw [frK_zero] at h; omega
  | j + 1, hj, i, h => by
    have ih := readK_get hok hF hO j (by omega)
    obtain ⟨x, hx, _⟩ := hO j (by omega)
    have hf := (pcJ_iff a n j).2 (by omega)
    have hpg := frK_page hf
    have hst := frK_step hf
    have hlen := readK_len hok hF hO j (by omega)
    rw [readK, hx]
    by_cases hi : i < frK a n j
    · rw [List.getElem?_append_left (by omega)]
      exact ih i hi
    · rw [List.getElem?_append_right (by omega), hlen]
      show (partB F x.f.toNat ((a + frK a n j) % 64) (min (n - frK a n j) (64 - (a + frK a n j) % 64)))[i - frK a n j]? = _
      have hb := hF.len x.f.toNat
      have hdiv : (a + i) / 64 = a / 64 + j := by omega
      unfold partB byteP
      rw [List.getElem?_take, if_pos (by omega), List.getElem?_drop, hdiv, hx]
      show (F.b x.f.toNat)[(a + frK a n j) % 64 + (i - frK a n j)]? = some ((F.b x.f.toNat).getD ((a + i) % 64) 0)
      rw [show (a + frK a n j) % 64 + (i - frK a n j) = (a + i) % 64 by omega, List.getD_eq_getElem?_getD, List.getElem?_eq_getElem (by omega)]
      rfl
theorem pcJ_whole (a n : Nat) : frK a n (pcJ a n) = n := by
  have h1 := pcJ_iff a n (pcJ a n)
  have h2 := frK_le a n (pcJ a n)
  omega
/-- What is written is read. -/
theorem read_back {F : Fs} {ms : Nat → M} {s k : Nat} (h : GI F ms s) (hk : k < s) (a : Nat) {bs : List Int} (hl : bs.length ≤ 4096) (hlow : ∀ x ∈ bs, 0 ≤ x ∧ x ≤ 255) (h0 : (writeA F (ms k) a bs).1 = 0) :
    okK (writeA F (ms k) a bs).2.2 a false (pcJ a bs.length) ∧ readB (writeA F (ms k) a bs).2.1 (writeA F (ms k) a bs).2.2 a bs.length = bs := by
  have hG := h.writeA hk a hl hlow
  unfold writeA at h0 hG ⊢
  by_cases hO : okB (ms k) a true (pcJ a bs.length) = true
  · rw [if_pos hO] at h0 hG ⊢
    by_cases hf : freeN F < (needK F (ms k) a (pcJ a bs.length) : Nat)
    · rw [if_pos hf] at h0
      cases h0
    · rw [if_neg hf] at hG ⊢
      have hOk := (okB_iff _ _ _ _).1 hO
      obtain ⟨h1, h2, h3⟩ := writeGo_all (bs := bs) (h.spOk hk) h.fok hl hOk (by omega) hlow _ (Nat.le_refl _)
      have hby := byte_write (bs := bs) (h.spOk hk) h.fok hl rfl hOk (by omega) hlow
      show okK (writeGo F (ms k) a bs.length bs (pcJ a bs.length)).2 a false (pcJ a bs.length) ∧ readB (writeGo F (ms k) a bs.length bs (pcJ a bs.length)).1 (writeGo F (ms k) a bs.length bs (pcJ a bs.length)).2 a bs.length = bs
      have hOn : okK (writeGo F (ms k) a bs.length bs (pcJ a bs.length)).2 a false (pcJ a bs.length) := fun j hj => by
        obtain ⟨x, hx, _⟩ := hOk j hj
        have hp : a / 64 + j < 64 := by
          have := hx
          unfold look at this
          split at this
          · omega
          · cases this
        rw [look_in _ hp] at hx
        have ht := h3.there _ hp
        rw [hx] at ht
        obtain ⟨y, hy⟩ := Option.isSome_iff_exists.1 ht
        exact ⟨y, by rw [look_in _ hp]; exact hy, fun e => by cases e⟩
      refine ⟨hOn, ?_⟩
      have hrl := readK_len h3.ok h1 hOn (pcJ a bs.length) (Nat.le_refl _)
      rw [pcJ_whole] at hrl
      unfold readB
      apply List.ext_getElem?
      intro i
      by_cases hi : i < bs.length
      · rw [readK_get h3.ok h1 hOn _ (Nat.le_refl _) i (by rw [pcJ_whole]; exact hi), hby (a + i)]
        have hsome : ∃ o, byteP F (ms k) (a + i) = some o := by
          have hfk : frK a bs.length ((a + i) / 64 - a / 64) ≤ i := by unfold frK; split <;> omega
          obtain ⟨x, hx, _⟩ := hOk ((a + i) / 64 - a / 64) ((pcJ_iff _ _ _).1 (by omega))
          refine ⟨(F.b x.f.toNat).getD ((a + i) % 64) 0, ?_⟩
          unfold byteP
          rw [show (a + i) / 64 = a / 64 + ((a + i) / 64 - a / 64) by omega, hx]
        obtain ⟨o, ho⟩ := hsome
        rw [ho]
        show some (if a ≤ a + i ∧ a + i < a + bs.length then bs.getD (a + i - a) 0 else o) = _
        rw [if_pos (by omega), show a + i - a = i by omega, List.getD_eq_getElem?_getD, List.getElem?_eq_getElem hi]
        rfl
      · rw [List.getElem?_eq_none (by omega), List.getElem?_eq_none (by omega)]
  · rw [if_neg hO] at h0
    cases h0
section
variable {w W W0 W1 W' : World} {fb lb cap : Nat} {F : Fs} {s i : Nat} {sb bt : Nat → Nat} {q : Nat → Nat → Option Nat} {ms : Nat → M}
theorem asWriteN (h : AS w W0 fb lb cap F s sb bt q ms) (hi : i < s) (hb0 : Below W0.heap.size W0 W) (a : Nat) {g o c n : Nat} {bs : List Int} (hnl : bs.length = n) (ha : a < 4294967296) (hl : bs.length ≤ 4096) (hlow : ∀ x ∈ bs, 0 ≤ x ∧ x ≤ 255) (hg : W0.heap.size ≤ g ∧ g < W.heap.size)
    (hc : ∀ (j : Nat) (v : Value), (bs.map fun x => Value.int .u8 x)[j]? = some v → W.cell? ⟨g, o + j, none⟩ = some v) (hcap : bs.length ≤ c) :
    Calls Try.prog 21 #[.pointer (some ⟨sb i, 0, none⟩), .int .u32 a, .slice (some ⟨g, o, none⟩) n c] W fun e W' => e = .returned (.int .i64 (writeA F (ms i) a bs).1) ∧ ∃ q', AS w W' fb lb cap (writeA F (ms i) a bs).2.1 s sb bt q' (updS ms i (writeA F (ms i) a bs).2.2) ∧ KeepT W W' := by
  subst hnl
  have h' := h.below hb0
  refine (spWrite_any (h'.fs hi) (h'.ok hi) a bs (some ⟨g, o, none⟩) c ha hl hlow (fun _ => ⟨g, o, rfl, hg.2, fun hk => ?_, hc⟩) hcap).mono fun e W' ⟨h1, h2⟩ => ?_
  · rcases hk with rfl | hk
    · have := h.f.lt.2
      omega
    · have := (h.sp i hi).t.own_lt hk
      omega
  · obtain ⟨q', h3, h4⟩ := h'.fout hi (FOut.of_wout h2) (h'.gi.writeA hi a hl hlow)
    exact ⟨h1, q', h3, h4⟩
set_option maxRecDepth 100000 in
set_option maxHeartbeats 4000000 in
theorem asPutText (h : AS w W fb lb cap F s sb bt q ms) (hi : i < s) (a : Nat) (ha : a < 4294967296) (t : ByteArray) :
    Calls Try.prog 8 #[.pointer (some ⟨sb i, 0, none⟩), .int .u32 a, .string t] W fun e W' => e = .returned (.int .i64 (putA F (ms i) a t).1) ∧ ∃ q', AS w W' fb lb cap (putA F (ms i) a t).2.1 s sb bt q' (updS ms i (putA F (ms i) a t).2.2) := by
  have HH := Lib.hid h
  clear h
  go_enter Try.func8, Try.ntmps8
  go_wp2_with (fail)
  refine (Try.strings_IndexByte t 0 W).mono ?_
  rintro e W1 ⟨rfl, rfl⟩
  rw [show ((0 : Int).toNat.toUInt8) = 0 from rfl]
  by_cases hn : hasN t
  · have hA : putA F (ms i) a t = (22, F, ms i) := if_pos (.inl hn)
    unfold hasN at hn
    generalize Lib.indexByte t.data.toList 0 = k at *
    have HA := Lib.hid hA
    clear hA
    go_wp2
    go_ret
    rw [HA.out]
    exact ⟨rfl, q, by rw [updS_self]; exact HH.out⟩
  · have HN := Lib.hid hn
    unfold hasN at hn
    generalize Lib.indexByte t.data.toList 0 = k at *
    by_cases hl : 4096 ≤ t.size
    · have HA := Lib.hid (show putA F (ms i) a t = (22, F, ms i) from if_pos (.inr hl))
      go_wp2
      go_ret
      rw [HA.out]
      exact ⟨rfl, q, by rw [updS_self]; exact HH.out⟩
    · have HA := Lib.hid (show putA F (ms i) a t = writeA F (ms i) a (b0 t) from if_neg (fun e => e.elim HN.out hl))
      have hcv := fun W => run_bytes_of_string (P := Try.prog) W 9 50 5 t Try.underlying9 Try.underlying50 Try.underlying5
      have hs4 : t.size < 4096 := by omega
      have HS4 := Lib.hid hs4
      go_wp2_with (at_builtin; refine wpList_append0 (V := W1) HS4.out rfl _ _ rfl rfl rfl ?_; intro g c W2 hg hc hcells hbel; have HG := Lib.hid hg; have HC := Lib.hid hc; have HCE := Lib.hid hcells; have HBE := Lib.hid hbel; clear hg hc hcells hbel)
      refine (asWriteN HH.out hi HBE.out a (b0_len t) ha (by rw [b0_len]; omega) (b0_low t) HG.out HCE.out (by rw [b0_len]; exact HC.out)).mono ?_
      rintro e W3 ⟨rfl, q', h3, _⟩
      have H3 := Lib.hid h3
      clear h3
      go_wp2
      go_ret
      rw [HA.out]
      exact ⟨rfl, q', H3.out⟩
theorem as_write_row (h : AS w W fb lb cap F s sb bt q ms) (hi : i < s) (hb : Below W.heap.size W W1) (a : Nat) (ha : a < 4294967296) {bs : List Int} (hlow : ∀ x ∈ bs, 0 ≤ x ∧ x ≤ 255) (hl : bs.length ≤ 4096) {v : Value} (ho : W1.ownsRow W.heap.size 5 1 v bs.length (bs.map fun x => Value.int .u8 x)) :
    ∃ A c, v = .slice A bs.length c ∧ Calls Try.prog 21 #[.pointer (some ⟨sb i, 0, none⟩), .int .u32 a, .slice A bs.length c] W1 fun e W' => e = .returned (.int .i64 (writeA F (ms i) a bs).1) ∧ ∃ q', AS w W' fb lb cap (writeA F (ms i) a bs).2.1 s sb bt q' (updS ms i (writeA F (ms i) a bs).2.2) ∧ KeepT W1 W' := by
  by_cases h0 : 0 < bs.length
  · obtain ⟨g, c, cur, rfl, hg, hblk, hcur⟩ := row_open ho h0
    have hcs : bs.length ≤ c := by
      rcases ho.2 with ⟨_, h0⟩ | ⟨g', c', _, e, _, _, h5, _⟩
      · omega
      · injection e with _ _ e3
        omega
    exact ⟨_, c, rfl, asWriteN h hi hb a rfl ha hl hlow ⟨hg, hblk.lt⟩ (fun j v hv => by rw [Nat.zero_add, hblk.cell]; exact hcur j v hv) hcs⟩
  · have he : bs = [] := List.eq_nil_of_length_eq_zero (by omega)
    rw [he] at ho ⊢
    rcases ho.2 with ⟨rfl, _⟩ | ⟨g, c, cur, rfl, hg, hblk, _⟩
    · exact ⟨none, 0, rfl, asWrite (h.below hb) hi a ha ⟨(fun x hx => by cases hx), Nat.le_refl _, fun h => absurd h (by decide)⟩ (by decide)⟩
    · exact ⟨_, c, rfl, asWrite (h.below hb) hi a ha ⟨(fun x hx => by cases hx), Nat.zero_le _, fun h => absurd h (by decide)⟩ (by decide)⟩
set_option maxRecDepth 100000 in
set_option maxHeartbeats 4000000 in
theorem asPutWords (h : AS w W fb lb cap F s sb bt q ms) (hi : i < s) (a : Nat) (ha : a < 4294967296) {A : Option Addr} {ca : Nat} {ws : List Int} (hl : ws.length ≤ 1024) (hA : WordsA W A ca ws) :
    Calls Try.prog 14 #[.pointer (some ⟨sb i, 0, none⟩), .int .u32 a, .slice A ws.length ca] W fun e W' => e = .returned (.int .i64 (writeA F (ms i) a (bytesL ws)).1) ∧ ∃ q', AS w W' fb lb cap (writeA F (ms i) a (bytesL ws)).2.1 s sb bt q' (updS ms i (writeA F (ms i) a (bytesL ws)).2.2) ∧ KeepT W W' := by
  have HH := Lib.hid h
  have HA := Lib.hid hA
  have hli : ¬ (1024 : Int) < (ws.length : Int) := by omega
  have HBL := Lib.hid (show (bytesL ws).length ≤ 4096 from by rw [bytesL_len]; omega)
  clear h hA
  go_enter Try.func14, Try.ntmps14
  go_wp2_with (fail)
  refine (all_any (by omega) (HA.out.below (Below.refl _ _))).mono ?_
  rintro e W1 ⟨v, rfl, ho, hb⟩
  have HB := Lib.hid hb
  have HW := Lib.hid (as_write_row HH.out hi hb a ha (bytesL_low HA.out.low) HBL.out ho)
  clear ho hb
  obtain ⟨A1, c1, rfl, hw⟩ := HW.out
  have HC := Lib.hid hw
  clear hw HW
  go_wp2_with (fail)
  refine HC.out.mono ?_
  rintro e W2 ⟨rfl, q', h2, h3⟩
  have H2 := Lib.hid h2
  have H3 := Lib.hid ((KeepT.of_below HB.out).trans h3)
  clear h2 h3
  generalize hcode : (writeA F (ms i) a (bytesL ws)).1 = code at *
  have HCO := Lib.hid hcode
  clear hcode
  go_wp2
  go_ret
  rw [HCO.out]
  exact ⟨rfl, q', H2.out, H3.out⟩
end
end
section
open Go.RowKit Go.Shelf
set_option linter.unusedVariables false
set_option linter.unusedSimpArgs false

theorem pageP_kept {F F' : Fs} {m : M} {p : Nat} (h : ∀ x, m p = some x → F'.b x.f.toNat = F.b x.f.toNat) : pageP F' m p = pageP F m p := by
  unfold pageP
  cases hm : m p with
  | none => rfl
  | some x => exact h x hm
theorem byteP_kept {F F' : Fs} {m : M} {n : Nat} (h : ∀ x, n / 64 < 64 → m (n / 64) = some x → F'.b x.f.toNat = F.b x.f.toNat) : byteP F' m n = byteP F m n := by
  unfold byteP
  by_cases hp : n / 64 < 64
  · rw [look_in m hp]
    cases hm : m (n / 64) with
    | none => rfl
    | some x => simp only; rw [h x hp hm]
  · have : look m ((n / 64 : Nat) : Int) = none := by unfold look; rw [if_neg (by omega)]
    rw [this]
/-- A write into a space whose pages are not Shared leaves all others' bytes. -/
theorem write_bytes {F : Fs} {ms : Nat → M} {s i i' : Nat} (h : GI F ms s) (hi : i < s) (hi' : i' < s) (hne : i' ≠ i) (hns : ∀ p x, p < 64 → ms i p = some x → x.s = false) (a : Nat) {bs : List Int} (hk : bs.length ≤ 4096) (hlow : ∀ x ∈ bs, 0 ≤ x ∧ x ≤ 255) (n : Nat) :
    byteP (writeA F (ms i) a bs).2.1 (ms i') n = byteP F (ms i') n := by
  unfold writeA
  split
  · next hO =>
    split
    · rfl
    · next hf =>
      refine byteP_kept fun x hp hx => ?_
      have hw := write_other (bs := bs) h hi hi' hne hk ((okB_iff _ _ _ _).1 hO) (by omega) hlow _ (Nat.le_refl _)
      exact hw.else_ (n / 64) x hp hx (fun u hu hs _ _ _ => by rw [hns (n / 64) u hp hu] at hs; cases hs)
  · rfl
theorem clone_bytes (F : Fs) (m : M) (n : Nat) : byteP (clG F m (list m) (list m).length).1 (clG F m (list m) (list m).length).2.1 n = byteP F m n ∧ byteP (clG F m (list m) (list m).length).1 (clG F m (list m) (list m).length).2.2 n = byteP F m n := by
  unfold byteP
  by_cases hp : n / 64 < 64
  · obtain ⟨h1, h2⟩ := clone_pages F m hp
    rw [look_in _ hp, look_in _ hp, look_in _ hp, h1, h2, clG_b]
    cases m (n / 64) with
    | none => exact ⟨rfl, rfl⟩
    | some x => exact ⟨rfl, rfl⟩
  · have : ∀ m : M, look m ((n / 64 : Nat) : Int) = none := fun m => by unfold look; rw [if_neg (by omega)]
    rw [this, this, this]
    exact ⟨rfl, rfl⟩
/-- What a write leaves of a space: which pages are mapped, and what is Shared. -/
theorem writeA_keeps {F : Fs} {ms : Nat → M} {s i : Nat} (h : GI F ms s) (hi : i < s) (a : Nat) {bs : List Int} (hk : bs.length ≤ 4096) (hlow : ∀ x ∈ bs, 0 ≤ x ∧ x ≤ 255) :
    (∀ p, p < 64 → ((writeA F (ms i) a bs).2.2 p).isSome = (ms i p).isSome) ∧ ∀ p x y, p < 64 → ms i p = some x → (writeA F (ms i) a bs).2.2 p = some y → y.w = x.w ∧ y.s = x.s := by
  have hself : (∀ p, p < 64 → (ms i p).isSome = (ms i p).isSome) ∧ ∀ p x y, p < 64 → ms i p = some x → ms i p = some y → y.w = x.w ∧ y.s = x.s :=
    ⟨fun _ _ => rfl, fun p x y _ hx hy => by rw [hx] at hy; cases hy; exact ⟨rfl, rfl⟩⟩
  unfold writeA
  split
  · next hO =>
    split
    · exact hself
    · next hf =>
      obtain ⟨_, _, hB⟩ := writeGo_all (bs := bs) (h.spOk hi) h.fok hk ((okB_iff _ _ _ _).1 hO) (by omega) hlow _ (Nat.le_refl _)
      exact ⟨hB.there, hB.flags⟩
  · exact hself
/-- No page is Shared. -/
def NS (m : M) : Prop := ∀ p x, p < 64 → m p = some x → x.s = false
theorem NS.start : NS m0 := fun p x _ h => by cases h
theorem NS.write {F : Fs} {ms : Nat → M} {s i : Nat} (h : GI F ms s) (hi : i < s) (hn : NS (ms i)) (a : Nat) {bs : List Int} (hk : bs.length ≤ 4096) (hlow : ∀ x ∈ bs, 0 ≤ x ∧ x ≤ 255) : NS (writeA F (ms i) a bs).2.2 := fun p y hp hy => by
  obtain ⟨h1, h2⟩ := writeA_keeps h hi a hk hlow
  have h3 := h1 p hp
  rw [hy] at h3
  cases hx : ms i p with
  | none => rw [hx] at h3; cases h3
  | some x => rw [(h2 p x y hp hx hy).2]; exact hn p x hp hx
theorem NS.mapGo {F : Fs} {m : M} (hn : NS m) (P : Nat) (wr : Bool) : ∀ k, NS (mapGo F m P wr false k).2
  | 0 => hn
  | k + 1 => by
    have ih := NS.mapGo (F := F) hn P wr k
    rw [Go.Proofs.Ytlecfdchmcghlaa.mapGo]
    split
    · intro p x hp hx
      have hx : upd _ (P + k) _ p = some x := hx
      by_cases e : p = P + k
      · subst e
        rw [upd_same] at hx
        cases hx
        rfl
      · rw [upd_other _ _ e] at hx
        exact ih p x hp hx
    · exact ih
theorem NS.map {F : Fs} {m : M} (hn : NS m) (p n : Int) (wr : Bool) : NS (mapA F m p n wr false).2.2 := by
  rcases mapA_cases F m p n wr false with h | ⟨h, _⟩ | ⟨P, N, _, _, _, _, _, _, h⟩
  · rw [h]; exact hn
  · rw [h]; exact hn
  · rw [h]; exact hn.mapGo P wr N
theorem NS.clone {F : Fs} {m : M} (hn : NS m) : NS (clG F m (list m) (list m).length).2.1 ∧ NS (clG F m (list m) (list m).length).2.2 := by
  have h : ∀ p x, p < 64 → (m p).map cowE = some x → x.s = false := fun p x hp hx => by
    cases hm : m p with
    | none => rw [hm] at hx; cases hx
    | some y =>
      rw [hm] at hx
      cases hx
      exact hn p y hp hm
  exact ⟨fun p x hp hx => h p x hp (by rw [← (clone_pages F m hp).1]; exact hx), fun p x hp hx => h p x hp (by rw [← (clone_pages F m hp).2]; exact hx)⟩
/-- Two spaces. -/
def Sp2S (w W : World) (fb : Nat) (F : Fs) (ao bo : Nat) (ma mb : M) : Prop := ∃ lb cap sb bt q ms, AS w W fb lb cap F 2 sb bt q ms ∧ sb 0 = ao ∧ sb 1 = bo ∧ ms 0 = ma ∧ ms 1 = mb
/-- Three. -/
def Sp3S (w W : World) (fb : Nat) (F : Fs) (ao bo co : Nat) (ma mb mc : M) : Prop := ∃ lb cap sb bt q ms, AS w W fb lb cap F 3 sb bt q ms ∧ sb 0 = ao ∧ sb 1 = bo ∧ sb 2 = co ∧ ms 0 = ma ∧ ms 1 = mb ∧ ms 2 = mc
section
variable {w W W' : World} {fb : Nat} {F : Fs} {so ao bo co : Nat} {m ma mb mc : M}
theorem msClone (h : MS w W fb F so m) :
    Calls Try.prog 13 #[.pointer (some ⟨so, 0, none⟩)] W fun e W' => ∃ bo, e = .returned (.pointer (some ⟨bo, 0, none⟩)) ∧ Sp2S w W' fb (clG F m (list m) (list m).length).1 so bo (clG F m (list m) (list m).length).2.1 (clG F m (list m) (list m).length).2.2 ∧ KeepT W W' := by
  obtain ⟨lb, cap, sb, bt, q, ms, h, rfl, rfl⟩ := h
  refine (asClone h (i := 0) (by decide) (by decide)).mono ?_
  rintro e W' ⟨so, bo, qo, rfl, hA, hk⟩
  exact ⟨so, rfl, ⟨lb, cap, _, _, _, _, hA, updQ_other _ _ (by decide), updQ_same _ _ _, (updS_other _ _ (by decide)).trans (updS_same _ _ _), updS_same _ _ _⟩, hk⟩
theorem s2Clone (h : Sp2S w W fb F ao bo ma mb) :
    Calls Try.prog 13 #[.pointer (some ⟨ao, 0, none⟩)] W fun e W' => ∃ co, e = .returned (.pointer (some ⟨co, 0, none⟩)) ∧ Sp3S w W' fb (clG F ma (list ma) (list ma).length).1 ao bo co (clG F ma (list ma) (list ma).length).2.1 mb (clG F ma (list ma) (list ma).length).2.2 ∧ KeepT W W' := by
  obtain ⟨lb, cap, sb, bt, q, ms, h, rfl, rfl, rfl, rfl⟩ := h
  refine (asClone h (i := 0) (by decide) (by decide)).mono ?_
  rintro e W' ⟨so, bo, qo, rfl, hA, hk⟩
  exact ⟨so, rfl, ⟨lb, cap, _, _, _, _, hA, updQ_other _ _ (by decide), updQ_other _ _ (by decide), updQ_same _ _ _, (updS_other _ _ (by decide)).trans (updS_same _ _ _), (updS_other _ _ (by decide)).trans (updS_other _ _ (by decide)), updS_same _ _ _⟩, hk⟩
theorem Sp3S.below (h : Sp3S w W fb F ao bo co ma mb mc) (hb : Below W.heap.size W W') : Sp3S w W' fb F ao bo co ma mb mc := by
  obtain ⟨lb, cap, sb, bt, q, ms, h, e⟩ := h
  exact ⟨lb, cap, sb, bt, q, ms, h.below hb, e⟩
theorem Sp3S.lo (h : Sp3S w W fb F ao bo co ma mb mc) : Below w.heap.size w W := by
  obtain ⟨lb, cap, sb, bt, q, ms, h, e⟩ := h
  exact h.lo
theorem Sp2S.below (h : Sp2S w W fb F ao bo ma mb) (hb : Below W.heap.size W W') : Sp2S w W' fb F ao bo ma mb := by
  obtain ⟨lb, cap, sb, bt, q, ms, h, e⟩ := h
  exact ⟨lb, cap, sb, bt, q, ms, h.below hb, e⟩
theorem Sp2S.lo (h : Sp2S w W fb F ao bo ma mb) : Below w.heap.size w W := by
  obtain ⟨lb, cap, sb, bt, q, ms, h, e⟩ := h
  exact h.lo
theorem Sp2S.a (h : Sp2S w W fb F ao bo ma mb) : (∃ lb cap bt q, FS W fb lb cap F ao bt q ma) ∧ SpOk F ma := by
  obtain ⟨lb, cap, sb, bt, q, ms, h, rfl, rfl, rfl, rfl⟩ := h
  exact ⟨⟨_, _, _, _, h.fs (by decide)⟩, h.ok (by decide)⟩
theorem Sp2S.b (h : Sp2S w W fb F ao bo ma mb) : (∃ lb cap bt q, FS W fb lb cap F bo bt q mb) ∧ SpOk F mb := by
  obtain ⟨lb, cap, sb, bt, q, ms, h, rfl, rfl, rfl, rfl⟩ := h
  exact ⟨⟨_, _, _, _, h.fs (by decide)⟩, h.ok (by decide)⟩
theorem Sp3S.a (h : Sp3S w W fb F ao bo co ma mb mc) : (∃ lb cap bt q, FS W fb lb cap F ao bt q ma) ∧ SpOk F ma ∧ F.Ok := by
  obtain ⟨lb, cap, sb, bt, q, ms, h, rfl, rfl, rfl, rfl, rfl, rfl⟩ := h
  exact ⟨⟨_, _, _, _, h.fs (by decide)⟩, h.ok (by decide), h.gi.fok⟩
theorem Sp3S.c (h : Sp3S w W fb F ao bo co ma mb mc) : (∃ lb cap bt q, FS W fb lb cap F co bt q mc) ∧ SpOk F mc := by
  obtain ⟨lb, cap, sb, bt, q, ms, h, rfl, rfl, rfl, rfl, rfl, rfl⟩ := h
  exact ⟨⟨_, _, _, _, h.fs (by decide)⟩, h.ok (by decide)⟩
/-- PutWords into the first of two spaces; what it leaves. -/
theorem s2PutWords (h : Sp2S w W fb F ao bo ma mb) (a : Nat) (ha : a < 4294967296) {A : Option Addr} {ca : Nat} {ws : List Int} (hl : ws.length ≤ 1024) (hA : WordsA W A ca ws) :
    Calls Try.prog 14 #[.pointer (some ⟨ao, 0, none⟩), .int .u32 a, .slice A ws.length ca] W fun e W' => e = .returned (.int .i64 (writeA F ma a (bytesL ws)).1) ∧ Sp2S w W' fb (writeA F ma a (bytesL ws)).2.1 ao bo (writeA F ma a (bytesL ws)).2.2 mb ∧ KeepT W W' := by
  obtain ⟨lb, cap, sb, bt, q, ms, h, rfl, rfl, rfl, rfl⟩ := h
  refine (asPutWords h (i := 0) (by decide) a ha hl hA).mono ?_
  rintro e W' ⟨rfl, q', hA, hk⟩
  exact ⟨rfl, ⟨lb, cap, sb, bt, q', _, hA, rfl, rfl, updS_same _ _ _, updS_other _ _ (by decide)⟩, hk⟩
/-- PutText into the first of three spaces. -/
theorem s3PutText (h : Sp3S w W fb F ao bo co ma mb mc) (a : Nat) (ha : a < 4294967296) (t : ByteArray) :
    Calls Try.prog 8 #[.pointer (some ⟨ao, 0, none⟩), .int .u32 a, .string t] W fun e W' => e = .returned (.int .i64 (putA F ma a t).1) ∧ Sp3S w W' fb (putA F ma a t).2.1 ao bo co (putA F ma a t).2.2 mb mc := by
  obtain ⟨lb, cap, sb, bt, q, ms, h, rfl, rfl, rfl, rfl, rfl, rfl⟩ := h
  refine (asPutText h (i := 0) (by decide) a ha t).mono ?_
  rintro e W' ⟨rfl, q', hA⟩
  exact ⟨rfl, ⟨lb, cap, sb, bt, q', _, hA, rfl, rfl, rfl, updS_same _ _ _, updS_other _ _ (by decide), updS_other _ _ (by decide)⟩⟩
/-- What is written into the first of two spaces is read. -/
theorem s2_back (h : Sp2S w W fb F ao bo ma mb) (a : Nat) {bs : List Int} (hl : bs.length ≤ 4096) (hlow : ∀ x ∈ bs, 0 ≤ x ∧ x ≤ 255) (h0 : (writeA F ma a bs).1 = 0) :
    okK (writeA F ma a bs).2.2 a false (pcJ a bs.length) ∧ readB (writeA F ma a bs).2.1 (writeA F ma a bs).2.2 a bs.length = bs := by
  obtain ⟨lb, cap, sb, bt, q, ms, h, rfl, rfl, rfl, rfl⟩ := h
  exact read_back h.gi (k := 0) (by decide) a hl hlow h0
/-- A text put into the first of three leaves the third one's bytes. -/
theorem s3_other (h : Sp3S w W fb F ao bo co ma mb mc) (hn : NS ma) (a : Nat) (t : ByteArray) (n : Nat) : byteP (putA F ma a t).2.1 mc n = byteP F mc n := by
  obtain ⟨lb, cap, sb, bt, q, ms, h, rfl, rfl, rfl, rfl, rfl, rfl⟩ := h
  unfold putA
  split
  · rfl
  · next hh => exact write_bytes h.gi (i := 0) (i' := 2) (by decide) (by decide) (by decide) hn a (by rw [b0_len]; omega) (b0_low t) n
end
end
section
open Go.RowKit Go.Shelf
set_option linter.unusedVariables false
set_option linter.unusedSimpArgs false
attribute [local go_sem] Oper.semAt_some

theorem writeA_fail {F : Fs} {m : M} {a : Nat} {bs : List Int} (h : (writeA F m a bs).1 ≠ 0) : (writeA F m a bs).2 = (F, m) := by
  unfold writeA at h ⊢
  split
  · next hO =>
    rw [if_pos hO] at h
    split
    · rfl
    · next hf => rw [if_neg hf] at h; exact absurd rfl h
  · rfl
theorem putA_fail {F : Fs} {m : M} {a : Nat} {s : ByteArray} (h : (putA F m a s).1 ≠ 0) : (putA F m a s).2 = (F, m) := by
  unfold putA at h ⊢
  split
  · rfl
  · next hh => rw [if_neg hh] at h; exact writeA_fail h
theorem put_byte {F : Fs} {m : M} {a : Nat} {s : ByteArray} (hok : SpOk F m) (hF : F.Ok) (h0 : (putA F m a s).1 = 0) (n : Nat) : byteP (putA F m a s).2.1 (putA F m a s).2.2 n = (byteP F m n).map fun o => if a ≤ n ∧ n < a + (s.size + 1) then (b0 s).getD (n - a) 0 else o := by
  obtain ⟨hn, hs, he⟩ := put_ok h0
  rw [he] at h0 ⊢
  have hl := b0_len s
  unfold writeA at h0 ⊢
  by_cases hO : okB m a true (pcJ a (b0 s).length) = true
  · rw [if_pos hO] at h0 ⊢
    by_cases hf : freeN F < (needK F m a (pcJ a (b0 s).length) : Nat)
    · rw [if_pos hf] at h0; cases h0
    · rw [if_neg hf] at h0 ⊢
      have hw := byte_write hok hF (a := a) (k := (b0 s).length) (bs := b0 s) (by omega) rfl ((okB_iff _ _ _ _).1 hO) (by omega) (b0_low s) n
      rw [hl] at hw ⊢
      exact hw
  · rw [if_neg hO] at h0; cases h0
theorem strI (s : ByteArray) : strOfNums (bI s) = s := by
  have h : (strOfNums (bI s)).data.toList = s.data.toList := by
    rw [strOfNums_data]
    unfold bI
    rw [List.map_map]
    refine List.map_id'' (fun x => ?_) _
    show UInt8.ofNat ((x.toNat : Int)).toNat = x
    rw [Int.toNat_natCast]
    exact UInt8.ofNat_toNat
  have h2 : (strOfNums (bI s)).data = s.data := Array.toList_inj.1 h
  cases hs : s with
  | mk d =>
    rw [hs] at h2
    cases hx : strOfNums (bI ⟨d⟩) with
    | mk d' =>
      rw [hx] at h2
      simp only at h2
      rw [h2]
theorem row_words {W : World} {b : Nat} {v : Value} {ws : List Int} (hw : ∀ x ∈ ws, 0 ≤ x ∧ x ≤ 4294967295) (h : W.ownsRow b 26 1 v ws.length (ws.map fun x => Value.int .u32 x)) : ∃ A c, v = .slice A ws.length c ∧ WordsA W A c ws := by
  rcases h.2 with ⟨rfl, h0⟩ | ⟨g, c, cur, rfl, hg, hblk, hcl, hcm, _⟩
  · exact ⟨none, 0, by rw [h0], hw, by omega, fun hp => by omega⟩
  · refine ⟨some ⟨g, 0, none⟩, c, rfl, hw, hcl, fun hp => ?_⟩
    obtain ⟨g', c', cur', e, _, hb', hc'⟩ := row_open h hp
    injection e with e
    injection e with e
    injection e with e _ _
    subst e
    exact ⟨g, 0, rfl, hb'.lt, fun j u hu => by rw [Nat.zero_add, hb'.cell]; exact hc' j u hu⟩
set_option maxRecDepth 100000 in
set_option maxHeartbeats 8000000 in
theorem backWalk {w : World} {A : Option Addr} {ca : Nat} {ws : List Int} (hA : WordsA w A ca ws) (hml : ws.length ≤ maxLen) (t : ByteArray) (a pages : Int) (ha : 0 ≤ a ∧ a ≤ 65535) (hp : 0 ≤ pages ∧ pages ≤ 65535) :
    Calls Try.prog 4 #[.slice A ws.length ca, .string t, .int .u16 a, .int .u16 pages] w fun e w' => e = .returned (.bool true) ∧ Below w.heap.size w w' := by
  obtain ⟨N, hN⟩ : ∃ N : Nat, a % 1100 = (N : Int) := ⟨(a % 1100).toNat, by omega⟩
  have hN1 : N < 1100 := by omega
  have HA := Lib.hid hA
  clear hA
  go_enter Try.func4, Try.ntmps4
  go_wp2_with (fail)
  refine alive_any.mono ?_
  rintro e W1 ⟨rfl, hb1⟩
  have HB1 := Lib.hid hb1
  clear hb1
  by_cases h64 : 64 < ws.length
  · have h64i : (64 : Int) < (ws.length : Int) := by omega
    go_wp2
    go_ret
    exact ⟨rfl, HB1.out⟩
  have h64i : ¬ (64 : Int) < (ws.length : Int) := by omega
  by_cases h255 : 255 < t.size
  · have h255i : (255 : Int) < (t.size : Int) := by omega
    go_wp2
    go_ret
    exact ⟨rfl, HB1.out⟩
  have h255i : ¬ (255 : Int) < (t.size : Int) := by omega
  have HWL := Lib.hid (show ws.length ≤ 64 ∧ t.size ≤ 255 from ⟨by omega, by omega⟩)
  clear hml
  go_wp2_with (fail)
  refine (asFrames 16 (by decide)).mono ?_
  rintro e W2 ⟨fb, lb, rfl, hf, hb2, g1, g2⟩
  have HF := Lib.hid hf
  have HB := Lib.hid (bl_step HB1.out hb2)
  have HG := Lib.hid (show w.heap.size ≤ fb ∧ w.heap.size ≤ lb from ⟨Nat.le_trans HB1.out.size g1, Nat.le_trans HB1.out.size g2⟩)
  clear hf hb2 g1 g2
  go_wp2_with (fail)
  refine (msSpace HF.out (by decide) HB.out HG.out.1 HG.out.2).mono ?_
  rintro e W3 ⟨so, rfl, h3⟩
  have H3 := Lib.hid (show MS w W3 fb (Fs.new 16) so m0 ∧ NS m0 from ⟨h3, NS.start⟩)
  clear h3
  go_wp2_with (fail)
  go_loopw [13] (fun i wr => ∃ k : Nat, i = .int .i64 (k : Int) ∧ k ≤ 16 ∧ ∃ F m, Hid (MS w wr fb F so m ∧ NS m)) (fun i _ => 16 - (intOf i).toNat)
  case atStart => exact ⟨0, rfl, Nat.zero_le _, _, _, H3⟩
  case round =>
    obtain ⟨k, rfl, hk, F, m, HM⟩ := hrel
    by_cases hk6 : k < 16
    · have hki : (k : Int) < 16 := by omega
      go_wp2_with (refine (msMap HM.out.1 k 1 true false).mono ?_; rintro e W3 ⟨rfl, h3, _⟩; have H3 := Lib.hid (show MS w W3 fb _ so _ ∧ NS _ from ⟨h3, NS.map (F := F) HM.out.2 k 1 true⟩); clear h3)
      all_goals first
        | exact ⟨⟨k + 1, by go_num, by omega, _, _, H3⟩, by simp [intOf]; omega⟩
        | exact ⟨⟨k + 1, by go_num, by omega, _, _, HM⟩, by simp [intOf]; omega⟩
    · have hki : ¬ (k : Int) < 16 := by omega
      clear H3 HF HB HG HB1
      go_wp2_with (fail)
      refine (msClone HM.out.1).mono ?_
      rintro e W4 ⟨bo, rfl, h4, _⟩
      have H4 := Lib.hid h4
      have HNS := Lib.hid (NS.clone (F := F) HM.out.2).1
      have HAL := Lib.hid (clone_alike F m)
      clear h4 HM
      generalize (clG F m (list m) (list m).length).1 = F1 at *
      generalize (clG F m (list m) (list m).length).2.1 = m1 at *
      generalize (clG F m (list m) (list m).length).2.2 = m2 at *
      go_wp2_with (fail)
      refine (s2PutWords H4.out N (by omega) (by have := HWL.out; omega) (HA.out.below H4.out.lo)).mono ?_
      rintro e W5 ⟨rfl, h5, _⟩
      have H5 := Lib.hid h5
      clear h5
      have HBK := Lib.hid (fun h0 => s2_back H4.out N (bs := bytesL ws) (by rw [bytesL_len]; have := HWL.out; omega) (bytesL_low HA.out.low) h0)
      have HNS2 := Lib.hid (show NS (writeA F1 m1 N (bytesL ws)).2.2 from by
        obtain ⟨lb, cap, sb, bt, q, ms, h, rfl, rfl, rfl, rfl⟩ := H4.out
        exact NS.write h.gi (by decide) HNS.out N (by rw [bytesL_len]; have := HWL.out; omega) (bytesL_low HA.out.low))
      by_cases h0 : (writeA F1 m1 N (bytesL ws)).1 = 0
      case neg =>
        have hfl := writeA_fail h0
        rw [hfl] at H5
        have HNZ := Lib.hid h0
        clear h0 HBK HNS2 hfl
        generalize (writeA F1 m1 N (bytesL ws)).1 = code at *
        have hnz := HNZ.out
        obtain ⟨⟨_, _, _, _, fa⟩, oa⟩ := H5.out.a
        obtain ⟨⟨_, _, _, _, fb'⟩, ob⟩ := H5.out.b
        have HAK := Lib.hid (alike_any fa oa fb' ob)
        rw [HAL.out] at HAK
        clear fa oa fb' ob
        go_wp2_with (fail)
        refine HAK.out.mono ?_
        rintro e W6 ⟨rfl, h6⟩
        have H6 := Lib.hid (show Sp2S w W6 fb F1 so bo m1 m2 from H5.out.below h6)
        clear h6 HAK H5 H4 HAL
        generalize hFx : F1 = Fx at *
        generalize hmx : m1 = mx at *
        clear hFx hmx
        have HNX := HNS
        clear HNS
        go_wp2_with (fail)
        refine (s2Clone H6.out).mono ?_
        rintro e W7 ⟨co, rfl, h7, _⟩
        have H7 := Lib.hid h7
        have HNC := Lib.hid (NS.clone (F := Fx) HNX.out).1
        have HAC := Lib.hid (clone_alike Fx mx)
        have HBC := Lib.hid (fun n => clone_bytes Fx mx n)
        clear h7
        generalize (clG Fx mx (list mx) (list mx).length).1 = F7 at *
        generalize (clG Fx mx (list mx) (list mx).length).2.1 = ma at *
        generalize (clG Fx mx (list mx) (list mx).length).2.2 = mc at *
        go_wp2_with (fail)
        refine (s3PutText H7.out N (by omega) t).mono ?_
        rintro e W8 ⟨rfl, h8⟩
        have H8 := Lib.hid h8
        clear h8
        by_cases hp0 : (putA F7 ma N t).1 = 0
        case neg =>
          have hfl := putA_fail hp0
          rw [hfl] at H8
          have HNZ2 := Lib.hid hp0
          clear hp0 hfl
          generalize (putA F7 ma N t).1 = code2 at *
          have hnz2 := HNZ2.out
          obtain ⟨⟨_, _, _, _, fa⟩, oa, _⟩ := H8.out.a
          obtain ⟨⟨_, _, _, _, fc⟩, oc⟩ := H8.out.c
          have HAK2 := Lib.hid (alike_any fa oa fc oc)
          rw [HAC.out] at HAK2
          clear fa oa fc oc
          go_wp2_with (fail)
          refine HAK2.out.mono ?_
          rintro e W9 ⟨rfl, h9⟩
          have HL9 := Lib.hid (bl_step H8.out.lo h9)
          clear h9 HAK2
          go_wp2
          go_ret
          exact ⟨rfl, HL9.out⟩
        have HTX := Lib.hid (text_put (k := 0) H7.out.a.2.1 H7.out.a.2.2 hp0 (Nat.zero_le _) (by omega) 1)
        have HPB := Lib.hid (fun n => put_byte H7.out.a.2.1 H7.out.a.2.2 hp0 n)
        have HOT := Lib.hid (fun n => s3_other H7.out HNC.out N t n)
        rw [hp0]
        clear hp0
        generalize (putA F7 ma N t).2.1 = F8 at *
        generalize (putA F7 ma N t).2.2 = m8 at *
        obtain ⟨⟨_, _, _, _, fa⟩, oa, _⟩ := H8.out.a
        obtain ⟨⟨_, _, _, _, fc⟩, oc⟩ := H8.out.c
        have HTC := Lib.hid (show Calls Try.prog 9 #[.pointer (some ⟨so, 0, none⟩), .int .u32 (N : Nat), .int .i64 ((t.size + 1 : Nat) : Int)] W8 fun e w' => e = .returned (.tuple #[.string t, .int .i64 0]) ∧ Below W8.heap.size W8 w' from by
          have h := HTX.out
          rw [Nat.add_zero, Nat.sub_zero, if_neg (by decide), List.drop_zero] at h
          have hc := text_any fa oa N (t.size + 1) (by omega) (by have := HWL.out; omega)
          rw [h] at hc
          simp only [strI] at hc
          exact hc)
        have HBY := Lib.hid (fun W' (hb : Below W8.heap.size W8 W') (n : Nat) (hn : n < 1400) => spByte_any (fa.below hb) oa n (by omega))
        have HBY2 := Lib.hid (fun W' (hb : Below W8.heap.size W8 W') (n : Nat) (hn : n < 1400) => spByte_any (fc.below hb) oc n (by omega))
        have HL8 := Lib.hid H8.out.lo
        clear fa oa fc oc HTX H8 H7 H6
        go_wp2_with (fail)
        refine HTC.out.mono ?_
        rintro e W9 ⟨rfl, h9⟩
        have H9 := Lib.hid h9
        clear h9 HTC
        go_wp2_with (fail)
        go_loopw [22, 23, 24, 25, 26] (fun i _ _ _ _ wr => ∃ n : Nat, i = .int .u32 (n : Int) ∧ n ≤ 1400 ∧ Hid (Below W8.heap.size W8 wr)) (fun i _ _ _ _ _ => 1400 - (intOf i).toNat)
        case atStart => exact ⟨0, rfl, Nat.zero_le _, H9⟩
        case round =>
          obtain ⟨n, rfl, hn, HQ⟩ := hrel
          by_cases hn4 : n < 1400
          · have hni : (n : Int) < 1400 := by omega
            have HC1 := Lib.hid (fun W' hb => HBY.out W' hb n hn4)
            have HC2 := Lib.hid (fun W' hb => HBY2.out W' hb n hn4)
            have e2 : byteP F8 mc n = byteP F7 ma n := (HOT.out n).trans ((HBC.out n).2.trans (HBC.out n).1.symm)
            obtain ⟨u, v, b, hu1, hb1, hu2, hb2, huv⟩ : ∃ (u v : Int) (b : Bool), (byteP F8 m8 n).getD 0 = u ∧ (byteP F8 m8 n).isSome = b ∧ (byteP F8 mc n).getD 0 = v ∧ (byteP F8 mc n).isSome = b ∧ (¬ (N ≤ n ∧ n < N + (t.size + 1)) → u = v) := by
              rw [HPB.out n, e2]
              cases byteP F7 ma n with
              | none => exact ⟨0, 0, false, rfl, rfl, rfl, rfl, fun _ => rfl⟩
              | some o => exact ⟨_, o, true, rfl, rfl, rfl, rfl, fun h => if_neg h⟩
            rw [hu1, hb1] at HC1
            rw [hu2, hb2] at HC2
            have HUV := Lib.hid huv
            clear e2 hu1 hb1 hu2 hb2 huv
            go_wp2_with (fail)
            refine (HC1.out _ HQ.out).mono ?_
            rintro e Wa ⟨rfl, hqa⟩
            have HQA := Lib.hid (bl_step HQ.out hqa)
            clear hqa
            go_wp2_with (fail)
            refine (HC2.out _ HQA.out).mono ?_
            rintro e Wb ⟨rfl, hqb⟩
            have HQB := Lib.hid (bl_step HQA.out hqb)
            clear hqb HC1 HC2
            by_cases q1 : (n : Int) < (N : Int)
            · obtain rfl := HUV.out (by omega)
              go_wp2
              exact ⟨⟨n + 1, by go_num, by omega, HQB⟩, by simp [intOf]; omega⟩
            · by_cases q2 : (N : Int) + (t.size : Int) < (n : Int)
              · obtain rfl := HUV.out (by omega)
                go_wp2
                exact ⟨⟨n + 1, by go_num, by omega, HQB⟩, by simp [intOf]; omega⟩
              · go_wp2
                exact ⟨⟨n + 1, by go_num, by omega, HQB⟩, by simp [intOf]; omega⟩
          · have hni : ¬ (n : Int) < 1400 := by omega
            go_wp2
            go_ret
            exact ⟨rfl, bl_step HL8.out HQ.out⟩
      case pos =>
        rw [h0]
        have HBK2 := Lib.hid (HBK.out h0)
        clear HBK h0 HAL
        generalize (writeA F1 m1 N (bytesL ws)).2.1 = Fx at *
        generalize (writeA F1 m1 N (bytesL ws)).2.2 = mx at *
        obtain ⟨⟨_, _, _, _, fa⟩, oa⟩ := H5.out.a
        have HUW := Lib.hid (userWords_yes fa oa N (ws := ws) HA.out.low (by omega) (by have := HWL.out; omega) (by have := HBK2.out.1; rwa [bytesL_len] at this) (by have := HBK2.out.2; rwa [bytesL_len] at this))
        clear fa oa
        go_wp2_with (fail)
        refine HUW.out.mono ?_
        rintro e W6 ⟨v, rfl, hrow, h6⟩
        obtain ⟨A6, c6, rfl, hA6⟩ := row_words HA.out.low hrow
        have HSM := Lib.hid (same_any ws ws hA6 (HA.out.below (bl_step H5.out.lo h6)) (by have := HWL.out; omega) (by have := HWL.out; omega))
        have H6 := Lib.hid (show Sp2S w W6 fb Fx so bo mx m2 from H5.out.below h6)
        clear hrow h6 hA6 HUW HBK2
        rw [decide_eq_true (rfl : ws = ws)] at HSM
        have HNX := HNS2
        clear HNS2 HNS H5 H4
        go_wp2_with (fail)
        refine HSM.out.mono ?_
        rintro e W6b ⟨rfl, h6⟩
        have H6 := Lib.hid (H6.out.below h6)
        clear h6 HSM
        go_wp2_with (fail)
        refine (s2Clone H6.out).mono ?_
        rintro e W7 ⟨co, rfl, h7, _⟩
        have H7 := Lib.hid h7
        have HNC := Lib.hid (NS.clone (F := Fx) HNX.out).1
        have HAC := Lib.hid (clone_alike Fx mx)
        have HBC := Lib.hid (fun n => clone_bytes Fx mx n)
        clear h7
        generalize (clG Fx mx (list mx) (list mx).length).1 = F7 at *
        generalize (clG Fx mx (list mx) (list mx).length).2.1 = ma at *
        generalize (clG Fx mx (list mx) (list mx).length).2.2 = mc at *
        go_wp2_with (fail)
        refine (s3PutText H7.out N (by omega) t).mono ?_
        rintro e W8 ⟨rfl, h8⟩
        have H8 := Lib.hid h8
        clear h8
        by_cases hp0 : (putA F7 ma N t).1 = 0
        case neg =>
          have hfl := putA_fail hp0
          rw [hfl] at H8
          have HNZ2 := Lib.hid hp0
          clear hp0 hfl
          generalize (putA F7 ma N t).1 = code2 at *
          have hnz2 := HNZ2.out
          obtain ⟨⟨_, _, _, _, fa⟩, oa, _⟩ := H8.out.a
          obtain ⟨⟨_, _, _, _, fc⟩, oc⟩ := H8.out.c
          have HAK2 := Lib.hid (alike_any fa oa fc oc)
          rw [HAC.out] at HAK2
          clear fa oa fc oc
          go_wp2_with (fail)
          refine HAK2.out.mono ?_
          rintro e W9 ⟨rfl, h9⟩
          have HL9 := Lib.hid (bl_step H8.out.lo h9)
          clear h9 HAK2
          go_wp2
          go_ret
          exact ⟨rfl, HL9.out⟩
        have HTX := Lib.hid (text_put (k := 0) H7.out.a.2.1 H7.out.a.2.2 hp0 (Nat.zero_le _) (by omega) 1)
        have HPB := Lib.hid (fun n => put_byte H7.out.a.2.1 H7.out.a.2.2 hp0 n)
        have HOT := Lib.hid (fun n => s3_other H7.out HNC.out N t n)
        rw [hp0]
        clear hp0
        generalize (putA F7 ma N t).2.1 = F8 at *
        generalize (putA F7 ma N t).2.2 = m8 at *
        obtain ⟨⟨_, _, _, _, fa⟩, oa, _⟩ := H8.out.a
        obtain ⟨⟨_, _, _, _, fc⟩, oc⟩ := H8.out.c
        have HTC := Lib.hid (show Calls Try.prog 9 #[.pointer (some ⟨so, 0, none⟩), .int .u32 (N : Nat), .int .i64 ((t.size + 1 : Nat) : Int)] W8 fun e w' => e = .returned (.tuple #[.string t, .int .i64 0]) ∧ Below W8.heap.size W8 w' from by
          have h := HTX.out
          rw [Nat.add_zero, Nat.sub_zero, if_neg (by decide), List.drop_zero] at h
          have hc := text_any fa oa N (t.size + 1) (by omega) (by have := HWL.out; omega)
          rw [h] at hc
          simp only [strI] at hc
          exact hc)
        have HBY := Lib.hid (fun W' (hb : Below W8.heap.size W8 W') (n : Nat) (hn : n < 1400) => spByte_any (fa.below hb) oa n (by omega))
        have HBY2 := Lib.hid (fun W' (hb : Below W8.heap.size W8 W') (n : Nat) (hn : n < 1400) => spByte_any (fc.below hb) oc n (by omega))
        have HL8 := Lib.hid H8.out.lo
        clear fa oa fc oc HTX H8 H7 H6
        go_wp2_with (fail)
        refine HTC.out.mono ?_
        rintro e W9 ⟨rfl, h9⟩
        have H9 := Lib.hid h9
        clear h9 HTC
        go_wp2_with (fail)
        go_loopw [22, 23, 24, 25, 26] (fun i _ _ _ _ wr => ∃ n : Nat, i = .int .u32 (n : Int) ∧ n ≤ 1400 ∧ Hid (Below W8.heap.size W8 wr)) (fun i _ _ _ _ _ => 1400 - (intOf i).toNat)
        case atStart => exact ⟨0, rfl, Nat.zero_le _, H9⟩
        case round =>
          obtain ⟨n, rfl, hn, HQ⟩ := hrel
          by_cases hn4 : n < 1400
          · have hni : (n : Int) < 1400 := by omega
            have HC1 := Lib.hid (fun W' hb => HBY.out W' hb n hn4)
            have HC2 := Lib.hid (fun W' hb => HBY2.out W' hb n hn4)
            have e2 : byteP F8 mc n = byteP F7 ma n := (HOT.out n).trans ((HBC.out n).2.trans (HBC.out n).1.symm)
            obtain ⟨u, v, b, hu1, hb1, hu2, hb2, huv⟩ : ∃ (u v : Int) (b : Bool), (byteP F8 m8 n).getD 0 = u ∧ (byteP F8 m8 n).isSome = b ∧ (byteP F8 mc n).getD 0 = v ∧ (byteP F8 mc n).isSome = b ∧ (¬ (N ≤ n ∧ n < N + (t.size + 1)) → u = v) := by
              rw [HPB.out n, e2]
              cases byteP F7 ma n with
              | none => exact ⟨0, 0, false, rfl, rfl, rfl, rfl, fun _ => rfl⟩
              | some o => exact ⟨_, o, true, rfl, rfl, rfl, rfl, fun h => if_neg h⟩
            rw [hu1, hb1] at HC1
            rw [hu2, hb2] at HC2
            have HUV := Lib.hid huv
            clear e2 hu1 hb1 hu2 hb2 huv
            go_wp2_with (fail)
            refine (HC1.out _ HQ.out).mono ?_
            rintro e Wa ⟨rfl, hqa⟩
            have HQA := Lib.hid (bl_step HQ.out hqa)
            clear hqa
            go_wp2_with (fail)
            refine (HC2.out _ HQA.out).mono ?_
            rintro e Wb ⟨rfl, hqb⟩
            have HQB := Lib.hid (bl_step HQA.out hqb)
            clear hqb HC1 HC2
            by_cases q1 : (n : Int) < (N : Int)
            · obtain rfl := HUV.out (by omega)
              go_wp2
              exact ⟨⟨n + 1, by go_num, by omega, HQB⟩, by simp [intOf]; omega⟩
            · by_cases q2 : (N : Int) + (t.size : Int) < (n : Int)
              · obtain rfl := HUV.out (by omega)
                go_wp2
                exact ⟨⟨n + 1, by go_num, by omega, HQB⟩, by simp [intOf]; omega⟩
              · go_wp2
                exact ⟨⟨n + 1, by go_num, by omega, HQB⟩, by simp [intOf]; omega⟩
          · have hni : ¬ (n : Int) < 1400 := by omega
            go_wp2
            go_ret
            exact ⟨rfl, bl_step HL8.out HQ.out⟩
end
section
open Go.ChangeShapes Go.WideShapes Go.ChangeAt Go.RowKit Go.Deep
set_option linter.unusedVariables false
set_option linter.unusedSimpArgs false

section
variable {H : Type} {enc : TypeId × Value → H} {w : World}
theorem trod_wordQ {base : Nat} {spare : Nat → Bool} {held : Bool} {fuel : Nat} {v : Value} {y : DataW H × List MemPlace} (h : DataW.trod enc Try.prog w base spare held fuel 26 [v] = some y) : ∃ x : Int, v = .int .u32 x ∧ 0 ≤ x ∧ x ≤ 4294967295 := by
  obtain ⟨a, e, _, wf⟩ := DataW.trod_int Try.underlying26 h
  injection e with e _
  exact ⟨a, e, by simpa [Lit.wf, IntKind.min, IntKind.max, IntKind.signed, IntKind.bits] using wf⟩
/-- Bytes that came in. -/
theorem trod_wordsQ {fuel : Nat} {cs : List Value} {y : DataW H × List MemPlace} (h : DataW.trod enc Try.prog w 0 (fun _ => true) true fuel 31 cs = some y) :
    ∃ (A : Option Addr) (c : Nat) (bs : List Int), cs = [.slice A bs.length c] ∧ WordsA w A c bs ∧ bs.length ≤ maxLen := by
  rcases open_slice1 Try.underlying31 cellsOf_u32 h with ⟨rfl, _⟩ | ⟨a, len, cap, m, n, V, D, Pl, rfl, _, hl, hm, hmm, _, hV⟩
  · exact ⟨none, 0, [], rfl, ⟨(fun x hx => by cases hx), Nat.le_refl _, fun h => absurd h (by decide)⟩, Nat.zero_le _⟩
  · have hmc : m = cap := by simpa using hmm
    obtain ⟨f, hf⟩ := choose_lt (α := Int) (n := len) (p := fun i x => w.cell? (a.add i) = some (.int .u32 x) ∧ 0 ≤ x ∧ x ≤ 4294967295) (fun i hi => by
      obtain ⟨h1, h2⟩ := hV i (by omega)
      obtain ⟨x, hx, hr⟩ := trod_wordQ h2
      exact ⟨x, by rw [h1, hx], hr⟩)
    refine ⟨some a, cap, (List.range len).map f, by simp, ⟨fun x hx => ?_, by simp; omega, fun hp => ?_⟩, by simp; omega⟩
    · obtain ⟨i, hi, rfl⟩ := List.mem_map.1 hx
      exact (hf i (List.mem_range.1 hi)).2
    · have hp : 0 < len := by simpa using hp
      have h0 := (hf 0 hp).1
      have e0 : a.add 0 = a := by simp [Addr.add]
      rw [e0] at h0
      have hsp := spot_of_cell h0
      obtain ⟨g, o, sp⟩ := a
      simp only at hsp
      subst hsp
      refine ⟨g, o, rfl, block_lt_of_cell h0, fun j v hv => ?_⟩
      rw [List.map_map, List.getElem?_map] at hv
      have hj : j < len := by
        rcases Nat.lt_or_ge j len with h | h
        · exact h
        · rw [List.getElem?_eq_none (by simpa using h)] at hv; cases hv
      rw [List.getElem?_range hj] at hv
      have hv : Value.int .u32 (f j) = v := by simpa using hv
      rw [← hv, ← add_eq]
      exact (hf j hj).1
theorem open_words {v : Value} {d : DataW H} {p : List MemPlace} (h : DataW.Trod enc Try.prog w 0 (fun _ => true) true 31 v d p) (hv : ∃ a len cap, v = .slice a len cap) :
    ∃ (A : Option Addr) (c : Nat) (bs : List Int), v = .slice A bs.length c ∧ WordsA w A c bs ∧ bs.length ≤ maxLen := by
  obtain ⟨a, len, cap, rfl⟩ := hv
  obtain ⟨fuel, hf⟩ := h
  obtain ⟨A, c, bs, e, h1, h2⟩ := trod_wordsQ hf
  simp only [Value.cells, List.cons.injEq, and_true] at e
  exact ⟨A, c, bs, e, h1, h2⟩
end
end
end Go.Proofs.Ytlecfdchmcghlaa
