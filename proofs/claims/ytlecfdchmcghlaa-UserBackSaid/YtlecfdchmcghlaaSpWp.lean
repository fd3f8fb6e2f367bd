/-
  Write of spaces in plain words: page by page, a frame of its own, an entry, bytes. Condition: each page's frame is used, and of that page alone within the space; as many frames are free as are wanted.
-/
import Derived.Test.YtlecfdchmcghlaaSpA
namespace Go.Proofs.Ytlecfdchmcghlaa
open Go.RowKit
set_option linter.unusedVariables false

/-- The frame that a page gets which is written. -/
def ownI (F : Fs) (x : E) : Int := if x.c = true ∧ 1 < refsI F x.f then (match freeK F with | some k => k | none => 0) else x.f
def ownS (F : Fs) (x : E) : Fs := if x.c = true ∧ 1 < refsI F x.f then (match freeK F with | some k => dropF (doubleF F x.f.toNat k) x.f | none => F) else F
def ownE (F : Fs) (x : E) : E := ⟨ownI F x, x.w, x.s, false, true⟩
/-- The bytes of a piece. -/
def cutB (bs : List Int) (a k j : Nat) : List Int := (bs.drop (pcK a k j).from_).take (pcK a k j).n
def writeGo (F : Fs) (m : M) (a k : Nat) (bs : List Int) : Nat → Fs × M
  | 0 => (F, m)
  | j + 1 => match (writeGo F m a k bs j).2 (a / 64 + j) with
    | some x => (writeF (ownS (writeGo F m a k bs j).1 x) (ownI (writeGo F m a k bs j).1 x).toNat (pcK a k j).off (cutB bs a k j), upd (writeGo F m a k bs j).2 (a / 64 + j) (some (ownE (writeGo F m a k bs j).1 x)))
    | none => writeGo F m a k bs j
theorem writeGo_succ {F : Fs} {m : M} {a k : Nat} {bs : List Int} {j : Nat} {x : E} (h : (writeGo F m a k bs j).2 (a / 64 + j) = some x) :
    writeGo F m a k bs (j + 1) = (writeF (ownS (writeGo F m a k bs j).1 x) (ownI (writeGo F m a k bs j).1 x).toNat (pcK a k j).off (cutB bs a k j), upd (writeGo F m a k bs j).2 (a / 64 + j) (some (ownE (writeGo F m a k bs j).1 x))) := by
  rw [writeGo, h]
theorem cutB_len {bs : List Int} {a k j : Nat} (hb : bs.length = k) (hj : frK a k j < k) : (cutB bs a k j).length = (pcK a k j).n := by
  unfold cutB
  rw [List.length_take, List.length_drop, hb]
  show min (min (k - frK a k j) (64 - (a + frK a k j) % 64)) (k - frK a k j) = min (k - frK a k j) (64 - (a + frK a k j) % 64)
  omega
/-- Where a frame of its own is wanted. -/
def wants (F : Fs) (x : E) : Prop := x.c = true ∧ 1 < refsI F x.f
theorem refsI_nat {F : Fs} {f : Nat} (hf : f < F.n) : refsI F (f : Int) = F.r f := by
  unfold refsI
  rw [if_pos ⟨by omega, by omega⟩, Int.toNat_natCast]
theorem ownS_not {F : Fs} {x : E} (h : ¬ wants F x) : ownS F x = F := if_neg h
theorem ownI_not {F : Fs} {x : E} (h : ¬ wants F x) : ownI F x = x.f := if_neg h
theorem ownS_yes {F : Fs} {x : E} {k : Nat} (h : wants F x) (hk : freeK F = some k) : ownS F x = dropF (doubleF F x.f.toNat k) x.f := by
  unfold ownS; rw [if_pos (show x.c = true ∧ 1 < refsI F x.f from h), hk]
theorem ownI_yes {F : Fs} {x : E} {k : Nat} (h : wants F x) (hk : freeK F = some k) : ownI F x = k := by
  unfold ownI; rw [if_pos (show x.c = true ∧ 1 < refsI F x.f from h), hk]
/-- What own does to frames' counts and bytes, where a frame of its own is wanted. -/
theorem own_eqs {F : Fs} {x : E} {f k : Nat} (hF : F.Ok) (hx : x.f = f) (hf : f < F.n) (hr : 1 < F.r f) (hk : freeK F = some k) (hc : x.c = true) :
    ownS F x = ((F.setR k 1).setB k (F.b f)).setR f (F.r f - 1) := by
  obtain ⟨hkn, hkr⟩ := freeK_some hk
  have hfk : f ≠ k := fun e => by rw [e, hkr] at hr; omega
  rw [ownS_yes ⟨hc, by rw [hx, refsI_nat hf]; omega⟩ hk, hx, Int.toNat_natCast]
  unfold dropF doubleF
  have hrr : ((F.setR k 1).setB k (F.b f)).r f = F.r f := by
    show (if f = k then 1 else F.r f) = F.r f
    rw [if_neg hfk]
  rw [Int.toNat_natCast, hrr, if_pos ⟨by omega, by show (f : Int) < (F.n : Int); omega, by omega⟩, if_neg (by omega)]
/-- The counts behind own. -/
theorem own_r {F : Fs} {x : E} {f k : Nat} (hF : F.Ok) (hx : x.f = f) (hf : f < F.n) (hr : 1 < F.r f) (hk : freeK F = some k) (hc : x.c = true) (i : Nat) :
    (ownS F x).r i = if i = f then F.r f - 1 else if i = k then 1 else F.r i := by
  rw [own_eqs hF hx hf hr hk hc]; rfl
theorem own_b {F : Fs} {x : E} {f k : Nat} (hF : F.Ok) (hx : x.f = f) (hf : f < F.n) (hr : 1 < F.r f) (hk : freeK F = some k) (hc : x.c = true) (i : Nat) :
    (ownS F x).b i = if i = k then F.b f else F.b i := by
  rw [own_eqs hF hx hf hr hk hc]; rfl
theorem own_n {F : Fs} {x : E} {f k : Nat} (hF : F.Ok) (hx : x.f = f) (hf : f < F.n) (hr : 1 < F.r f) (hk : freeK F = some k) (hc : x.c = true) : (ownS F x).n = F.n := by
  rw [own_eqs hF hx hf hr hk hc]; rfl
theorem usedN_same {F G : Fs} (h : ∀ i, F.r i = 0 ↔ G.r i = 0) : ∀ k, usedN F k = usedN G k
  | 0 => rfl
  | k + 1 => by
    rw [usedN, usedN, usedN_same h k]
    by_cases hk : F.r k = 0
    · rw [if_pos hk, if_pos ((h k).1 hk)]
    · rw [if_neg hk, if_neg (fun e => hk ((h k).2 e))]
theorem freeN_same {F G : Fs} (hn : F.n = G.n) (h : ∀ i, F.r i = 0 ↔ G.r i = 0) : freeN F = freeN G := by
  unfold freeN usedL
  rw [hn, usedN_same h]
theorem freeN_write (F : Fs) (k off : Nat) (bs : List Int) : freeN (writeF F k off bs) = freeN F := freeN_same rfl (fun _ => Iff.rfl)
theorem own_free {F : Fs} {x : E} {f k : Nat} (hF : F.Ok) (hx : x.f = f) (hf : f < F.n) (hr : 1 < F.r f) (hk : freeK F = some k) (hc : x.c = true) : freeN (ownS F x) = freeN F - 1 := by
  rw [← freeN_take hk]
  obtain ⟨hkn, hkr⟩ := freeK_some hk
  have hfk : f ≠ k := fun e => by rw [e, hkr] at hr; omega
  refine freeN_same (own_n hF hx hf hr hk hc) fun i => ?_
  rw [own_r hF hx hf hr hk hc]
  show _ ↔ (if i = k then 1 else F.r i) = 0
  by_cases h1 : i = f
  · subst h1
    rw [if_pos rfl, if_neg hfk]
    omega
  · rw [if_neg h1]
/-- What holds while a write goes on: j pages are written. -/
structure WL (F : Fs) (m : M) (a J j : Nat) (s : Fs × M) : Prop where
  n : s.1.n = F.n
  free : freeN s.1 = freeN F - needK F m a j
  page : ∀ i, j ≤ i → s.2 (a / 64 + i) = m (a / 64 + i)
  r : ∀ i x, j ≤ i → i < J → m (a / 64 + i) = some x → s.1.r x.f.toNat = F.r x.f.toNat
theorem WL.start (F : Fs) (m : M) (a J : Nat) : WL F m a J 0 (F, m) :=
  ⟨rfl, by show freeN F = freeN F - ((0 : Nat) : Int); omega, fun _ _ => rfl, fun _ _ _ _ _ => rfl⟩
theorem needK_mono (F : Fs) (m : M) (a : Nat) : ∀ k j, j ≤ k → needK F m a j ≤ needK F m a k
  | 0, j, h => by
    have : j = 0 := by omega
    subst this
    exact Nat.le_refl _
  | k + 1, j, h => by
    by_cases hj : j = k + 1
    · subst hj; exact Nat.le_refl _
    · have := needK_mono F m a k j (by omega)
      rw [needK]
      omega
/-- One page more. -/
theorem WL.step {F : Fs} {m : M} {a k j : Nat} {bs : List Int} {x : E} (hok : SpOk F m) (hF : F.Ok) (hJ : pcJ a k ≤ 65) (hG : (writeGo F m a k bs j).1.Ok) (h : WL F m a (pcJ a k) j (writeGo F m a k bs j)) (hj : j < pcJ a k) (hO : okK m a true (pcJ a k)) (hx : m (a / 64 + j) = some x) (hp : a / 64 + j < 64)
    (hneed : (needK F m a (pcJ a k) : Int) ≤ freeN F) :
    WL F m a (pcJ a k) (j + 1) (writeGo F m a k bs (j + 1)) ∧ (wants (writeGo F m a k bs j).1 x → ∃ i, freeK (writeGo F m a k bs j).1 = some i) := by
  obtain ⟨f, hxf, hfn, hfr⟩ := hok.used _ _ hp hx
  have hpage : (writeGo F m a k bs j).2 (a / 64 + j) = some x := (h.page j (Nat.le_refl _)).trans hx
  have hr : (writeGo F m a k bs j).1.r f = F.r f := by
    have := h.r j x (Nat.le_refl _) hj hx
    rwa [hxf, Int.toNat_natCast] at this
  have hfn' : f < (writeGo F m a k bs j).1.n := by rw [h.n]; exact hfn
  have hwr : refsI (writeGo F m a k bs j).1 x.f = refsI F x.f := by rw [hxf, refsI_nat hfn', refsI_nat hfn, hr]
  have hnk : needK F m a (j + 1) = needK F m a j + (if x.c = true ∧ 1 < refsI F x.f then 1 else 0) := by
    rw [needK, look_in m hp, hx]
  have hmono := needK_mono F m a (pcJ a k) (j + 1) (by omega)
  have hfree : wants (writeGo F m a k bs j).1 x → ∃ i, freeK (writeGo F m a k bs j).1 = some i := fun hw => by
    refine freeK_of ?_
    rw [h.free]
    have hw' : x.c = true ∧ 1 < refsI F x.f := ⟨hw.1, by rw [← hwr]; exact hw.2⟩
    rw [if_pos hw'] at hnk
    omega
  refine ⟨?_, hfree⟩
  rw [writeGo_succ hpage]
  have hpg : ∀ i, j + 1 ≤ i → upd (writeGo F m a k bs j).2 (a / 64 + j) (some (ownE (writeGo F m a k bs j).1 x)) (a / 64 + i) = m (a / 64 + i) := fun i hi => by
    rw [upd_other _ _ (by omega)]
    exact h.page i (by omega)
  by_cases hw : wants (writeGo F m a k bs j).1 x
  · obtain ⟨i0, hi0⟩ := hfree hw
    have hr1 : 1 < (writeGo F m a k bs j).1.r f := by
      have := hw.2
      rw [hxf, refsI_nat hfn'] at this
      omega
    obtain ⟨hin, hir⟩ := freeK_some hi0
    refine ⟨(own_n hG hxf hfn' hr1 hi0 hw.1).trans h.n, ?_, hpg, fun i y hi hiJ hy => ?_⟩
    · rw [freeN_write, own_free hG hxf hfn' hr1 hi0 hw.1, h.free, hnk, if_pos (show x.c = true ∧ 1 < refsI F x.f from ⟨hw.1, by rw [← hwr]; exact hw.2⟩)]
      omega
    · show (ownS _ x).r _ = _
      have hi64 : a / 64 + i < 64 := by
        obtain ⟨z, hz, _⟩ := hO i hiJ
        unfold look at hz
        split at hz
        · omega
        · cases hz
      obtain ⟨g, hyg, hgn, hgr⟩ := hok.used _ _ hi64 hy
      have hne : g ≠ f := fun e => by
        have := hok.one _ _ _ _ hi64 hp hy hx (by rw [hyg, hxf, e])
        omega
      have hgs := h.r i y (by omega) hiJ hy
      rw [hyg, Int.toNat_natCast] at hgs ⊢
      have hne2 : g ≠ i0 := fun e => by rw [e, hir] at hgs; rw [e] at hgr; omega
      rw [own_r hG hxf hfn' hr1 hi0 hw.1, if_neg hne, if_neg hne2]
      exact hgs
  · refine ⟨?_, ?_, hpg, fun i y hi hiJ hy => ?_⟩
    · show (ownS _ x).n = _
      rw [ownS_not hw]; exact h.n
    · rw [freeN_write, ownS_not hw, h.free, hnk, if_neg (show ¬ (x.c = true ∧ 1 < refsI F x.f) from fun e => hw ⟨e.1, by rw [hwr]; exact e.2⟩)]
      omega
    · show (ownS _ x).r _ = _
      rw [ownS_not hw]
      exact h.r i y (by omega) hiJ hy
end Go.Proofs.Ytlecfdchmcghlaa
