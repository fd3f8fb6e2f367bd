/-
  user.PutText: a text is written, and a nought. Condition: one space over frames of its own.
-/
import Derived.ArgAppend
import Derived.Lib.IndexLaws
import Derived.Lib.Bytealg
import Derived.Laws.IdiomStrings
import Derived.Test.YtlecfdchmcghlaaSpU
import Derived.Test.YtlecfdchmcghlaaUs2
import Derived.Test.YtlecfdchmcghlaaShelf
namespace Go.Proofs.Ytlecfdchmcghlaa
open Go.RowKit Go.Shelf
set_option linter.unusedVariables false
set_option linter.unusedSimpArgs false

/-- A string's bytes, as numbers. -/
def bI (s : ByteArray) : List Int := s.data.toList.map fun b => (b.toNat : Int)
theorem bI_len (s : ByteArray) : (bI s).length = s.size := by unfold bI; rw [List.length_map]; exact Array.length_toList
theorem bI_low (s : ByteArray) : ∀ x ∈ bI s, 0 ≤ x ∧ x ≤ 255 := by
  intro x hx
  obtain ⟨b, _, rfl⟩ := List.mem_map.1 hx
  have := b.toNat_lt
  omega
def b0 (s : ByteArray) : List Int := bI s ++ [0]
theorem b0_len (s : ByteArray) : (b0 s).length = s.size + 1 := by unfold b0; rw [List.length_append, bI_len]; rfl
theorem b0_low (s : ByteArray) : ∀ x ∈ b0 s, 0 ≤ x ∧ x ≤ 255 := by
  intro x hx
  rcases List.mem_append.1 hx with h | h
  · exact bI_low s x h
  · rw [List.mem_singleton] at h; omega
theorem bI_at (s : ByteArray) (cap : Nat) (j : Nat) (u : Value) (h : ((bI s).map fun x => Value.int .u8 x)[j]? = some u) : (bytesRow s cap)[j]? = some u := by
  obtain ⟨hj, e⟩ := List.getElem?_eq_some_iff.1 h
  rw [List.length_map, bI_len] at hj
  rw [bytesRow_at s cap j hj, ← e]
  simp [bI]
/-- Has it a nought? -/
def hasN (s : ByteArray) : Prop := 0 ≤ Lib.indexByte s.data.toList 0
instance (s : ByteArray) : Decidable (hasN s) := inferInstanceAs (Decidable (_ ≤ _))
def putA (F : Fs) (m : M) (a : Nat) (s : ByteArray) : Int × Fs × M := if hasN s ∨ 4096 ≤ s.size then (22, F, m) else writeA F m a (b0 s)
/-- The world at the append. -/
def putX (V : World) (s : ByteArray) : World := ((V.alloc (.cells (bytesRow s (grownCap V s.size 0 5)) 5 ((bytesRow s (grownCap V s.size 0 5)).size, (bytesRow s (grownCap V s.size 0 5)).size + 1))).alloc (.cells #[.int .u8 0] 5)).drew
theorem putX_below (V : World) (s : ByteArray) : Below V.heap.size V (putX V s) := (bl_new (bl_new (Below.refl _ _) _) _).drew
theorem putX_size (V : World) (s : ByteArray) : (putX V s).heap.size = V.heap.size + 2 := by unfold putX; simp [World.drew]
theorem putX_cell (V : World) (s : ByteArray) (j : Nat) : (putX V s).cell? ⟨V.heap.size, j, none⟩ = (bytesRow s (grownCap V s.size 0 5))[j]? := by
  have h1 : Below (V.alloc (.cells (bytesRow s (grownCap V s.size 0 5)) 5 ((bytesRow s (grownCap V s.size 0 5)).size, (bytesRow s (grownCap V s.size 0 5)).size + 1))).heap.size _ (putX V s) := (bl_new (Below.refl _ _) (.cells #[.int .u8 0] 5)).drew
  rw [h1.cell (by simp)]
  exact World.cell?_alloc_mark _ _ _ _ _
theorem putX_frozen (V : World) (s : ByteArray) (j : Nat) (hj : j < (bytesRow s (grownCap V s.size 0 5)).size) : (putX V s).frozen? ⟨V.heap.size, j, none⟩ = false := by
  have h1 : Below (V.alloc (.cells (bytesRow s (grownCap V s.size 0 5)) 5 ((bytesRow s (grownCap V s.size 0 5)).size, (bytesRow s (grownCap V s.size 0 5)).size + 1))).heap.size _ (putX V s) := (bl_new (Below.refl _ _) (.cells #[.int .u8 0] 5)).drew
  rw [h1.frozen (by simp), World.frozen?_alloc_mark]
  simp; omega
theorem bytesRow_sz (s : ByteArray) (cap : Nat) (h : s.size ≤ cap) : (bytesRow s cap).size = cap := by
  have : s.data.size = s.size := rfl
  unfold bytesRow
  simp only [Array.size_append, Array.size_map, Array.size_replicate]
  omega
theorem wpList_append0 {V : World} {s : ByteArray} (hs4 : s.size < 4096) {ops : Array Oper} {rest : List Oper} {o : Oper} {a : Act} {Q : Exit → Act → World → Prop} (hgd : o.guard = none) (sl x : Operand)
    (ho : o.op = .call { callee := .builtin .append, args := #[sl, x], argTypes := #[50, 50] }) (h1 : a.eval sl = .slice (some ⟨V.heap.size, 0, none⟩) s.size (grownCap V s.size 0 5)) (h2 : a.eval x = .slice (some ⟨V.heap.size + 1, 0, none⟩) 1 1)
    (hK : ∀ (g c : Nat) (w' : World), V.heap.size ≤ g ∧ g < w'.heap.size → s.size + 1 ≤ c → (∀ (j : Nat) (v : Value), ((b0 s).map fun x => Value.int .u8 x)[j]? = some v → w'.cell? ⟨g, 0 + j, none⟩ = some v) → Below V.heap.size V w' → wpList Try.prog ops Q rest (a.put o.dst (.slice (some ⟨g, 0, none⟩) (s.size + 1) c)) w') : wpList Try.prog ops Q (o :: rest) a (putX V s) := by
  obtain ⟨i0, hi, hz0, hz1, hz2⟩ := info_parts infoU8
  have hge := grownCap_ge V s.size 0 5
  have hsz := bytesRow_sz s _ hge
  have hfull : ((b0 s).map fun x => Value.int .u8 x) = ((bI s).map fun x => Value.int .u8 x) ++ [Value.int .u8 0] := by unfold b0; rw [List.map_append]; rfl
  have hol : ((bI s).map fun x => Value.int .u8 x).length = s.size := by rw [List.length_map, bI_len]
  refine wpList_append_arg _ hgd sl x 50 ho 5 i0 _ 1 1 Try.underlying50 hi hz0 hz1 hz2 rfl (by decide) V.heap.size 0 s.size _ ((bI s).map fun x => Value.int .u8 x) h1 (by rw [hol, Nat.mul_one]) (fun j u hu => by rw [Nat.zero_add, putX_cell]; exact bI_at s _ j u hu)
    ⟨V.heap.size + 1, 0, none⟩ 1 1 [.int .u8 0] h2 rfl (fun j u hu => ?_) (by simp [Value.oneCell']) (fun hr j hj => ?_) (by unfold maxLen; omega) (by omega) (fun hr => ?_) (fun hgr v' w' hown hgb => ?_)
  · cases j with
    | zero =>
      cases hu
      have hx : (V.alloc (.cells (bytesRow s (grownCap V s.size 0 5)) 5 ((bytesRow s (grownCap V s.size 0 5)).size, (bytesRow s (grownCap V s.size 0 5)).size + 1))).heap.size = V.heap.size + 1 := by simp
      have := World.cell?_alloc_mark (V.alloc (.cells (bytesRow s (grownCap V s.size 0 5)) 5 ((bytesRow s (grownCap V s.size 0 5)).size, (bytesRow s (grownCap V s.size 0 5)).size + 1))) #[.int .u8 0] 5 (0, 0) 0
      rw [hx] at this
      exact this
    | succ j => simp at hu
  · have hj0 : j = 0 := by simp at hj; omega
    subst hj0
    refine ⟨?_, putX_frozen V s _ (by omega)⟩
    rw [putX_cell, Array.getElem?_eq_getElem (by omega)]; rfl
  · refine hK V.heap.size _ _ ⟨Nat.le_refl _, ?_⟩ hr (fun j v hv => ?_) ((putX_below V s).trans ?_)
    · have := putX_size V s
      simp [World.setCells, World.setCell]; omega
    · have h9 : (putX V s).cell? ⟨V.heap.size, s.size, none⟩ ≠ none := by
        rw [putX_cell, Array.getElem?_eq_getElem (by omega)]; simp
      rw [Nat.zero_add, Nat.mul_one, Nat.zero_add]
      rw [hfull] at hv
      by_cases hj : j < s.size
      · rw [List.getElem?_append_left (by omega)] at hv
        rw [World.cell?_setCells_out _ _ _ _ _ (fun _ _ => .inl (by show j < s.size; exact hj)), putX_cell]
        exact bI_at s _ j v hv
      · rw [List.getElem?_append_right (by omega), hol] at hv
        have hj2 : j = s.size := by
          have := (List.getElem?_eq_some_iff.1 hv).1
          simp at this; omega
        subst hj2
        have := World.cell?_setCells_in V.heap.size [Value.int .u8 0] s.size (putX V s) (fun i hi => by
          have hi0 : i = 0 := by simp at hi; omega
          subst hi0
          rw [Nat.add_zero]
          exact Option.isSome_iff_ne_none.2 h9) 0 (by simp)
        rw [Nat.add_zero] at this
        rw [this, ← hv]; simp
    · exact (Below.refl V.heap.size (putX V s)).setCell (Nat.le_refl _) _
  · rw [← hfull] at hown
    obtain ⟨g, c, cur, rfl, hg, hblk, hcur⟩ := row_open hown (by omega)
    have := putX_size V s
    have hcs : s.size + 1 ≤ c := by
      rcases hown.2 with ⟨_, h0⟩ | ⟨g', c', _, e, _, _, h5, _⟩
      · omega
      · injection e with _ _ e3
        omega
    exact hK g c w' ⟨by omega, hblk.lt⟩ hcs (fun j v hv => by rw [Nat.zero_add, hblk.cell]; exact hcur j v hv) ((putX_below V s).trans ⟨hgb.os, hgb.tape, hgb.output, hgb.size, fun k hk => hgb.block k (by omega) (by simp)⟩)
section
variable {w W W0 W' : World} {fb : Nat} {F : Fs} {so : Nat} {m : M}
theorem msWriteN (h : MS w W0 fb F so m) (hb0 : Below W0.heap.size W0 W) (a : Nat) {g o c n : Nat} {bs : List Int} (hnl : bs.length = n) (ha : a < 4294967296) (hl : bs.length ≤ 4096) (hlow : ∀ x ∈ bs, 0 ≤ x ∧ x ≤ 255) (hg : W0.heap.size ≤ g ∧ g < W.heap.size)
    (hc : ∀ (j : Nat) (v : Value), (bs.map fun x => Value.int .u8 x)[j]? = some v → W.cell? ⟨g, o + j, none⟩ = some v) (hcap : bs.length ≤ c) :
    Calls Try.prog 21 #[.pointer (some ⟨so, 0, none⟩), .int .u32 a, .slice (some ⟨g, o, none⟩) n c] W fun e W' => e = .returned (.int .i64 (writeA F m a bs).1) ∧ MS w W' fb (writeA F m a bs).2.1 so (writeA F m a bs).2.2 ∧ KeepT W W' := by
  subst hnl
  obtain ⟨lb, cap, sb, bt, q, ms, h, rfl, rfl⟩ := h
  have h' := h.below hb0
  refine (spWrite_any (h'.fs (i := 0) (by decide)) (h'.ok (i := 0) (by decide)) a bs (some ⟨g, o, none⟩) c ha hl hlow (fun _ => ⟨g, o, rfl, hg.2, fun hk => ?_, hc⟩) hcap).mono fun e W' ⟨h1, h2⟩ => ?_
  · rcases hk with rfl | hk
    · have := h.f.lt.2
      omega
    · have := (h.sp 0 (by decide)).t.own_lt hk
      omega
  · obtain ⟨q', h3, h4⟩ := h'.fout (i := 0) (by decide) (FOut.of_wout h2) (h'.gi.writeA (i := 0) (by decide) a hl hlow)
    exact ⟨h1, ⟨lb, cap, sb, bt, q', _, h3, rfl, updS_same _ _ _⟩, h4⟩
set_option maxRecDepth 100000 in
set_option maxHeartbeats 4000000 in
theorem putText_any (h : MS w W fb F so m) (a : Nat) (ha : a < 4294967296) (s : ByteArray) :
    Calls Try.prog 8 #[.pointer (some ⟨so, 0, none⟩), .int .u32 a, .string s] W fun e W' => e = .returned (.int .i64 (putA F m a s).1) ∧ MS w W' fb (putA F m a s).2.1 so (putA F m a s).2.2 := by
  have HH := Lib.hid h
  clear h
  obtain ⟨i0, hi, hz0, hz1, hz2⟩ := info_parts infoU8
  go_enter Try.func8, Try.ntmps8
  go_wp2_with (fail)
  refine (Try.strings_IndexByte s 0 W).mono ?_
  rintro e W1 ⟨rfl, rfl⟩
  rw [show ((0 : Int).toNat.toUInt8) = 0 from rfl]
  by_cases hn : hasN s
  · have hA : putA F m a s = (22, F, m) := if_pos (.inl hn)
    unfold hasN at hn
    generalize Lib.indexByte s.data.toList 0 = k at *
    have HA := Lib.hid hA
    clear hA
    go_wp2
    go_ret
    rw [HA.out]
    exact ⟨rfl, HH.out⟩
  · have HN := Lib.hid hn
    unfold hasN at hn
    generalize Lib.indexByte s.data.toList 0 = k at *
    by_cases hl : 4096 ≤ s.size
    · have HA := Lib.hid (show putA F m a s = (22, F, m) from if_pos (.inr hl))
      go_wp2
      go_ret
      rw [HA.out]
      exact ⟨rfl, HH.out⟩
    · have HA := Lib.hid (show putA F m a s = writeA F m a (b0 s) from if_neg (fun e => e.elim HN.out hl))
      have hcv := fun W => run_bytes_of_string (P := Try.prog) W 9 50 5 s Try.underlying9 Try.underlying50 Try.underlying5
      have hs4 : s.size < 4096 := by omega
      have HS4 := Lib.hid hs4
      go_wp2_with (at_builtin; refine wpList_append0 (V := W1) HS4.out rfl _ _ rfl rfl rfl ?_; intro g c W2 hg hc hcells hbel; have HG := Lib.hid hg; have HC := Lib.hid hc; have HCE := Lib.hid hcells; have HBE := Lib.hid hbel; clear hg hc hcells hbel)
      refine (msWriteN HH.out HBE.out a (b0_len s) ha (by rw [b0_len]; omega) (b0_low s) HG.out HCE.out (by rw [b0_len]; exact HC.out)).mono ?_
      rintro e W3 ⟨rfl, h3, _⟩
      have H3 := Lib.hid h3
      clear h3
      go_wp2
      go_ret
      rw [HA.out]
      exact ⟨rfl, H3.out⟩
end
end Go.Proofs.Ytlecfdchmcghlaa
