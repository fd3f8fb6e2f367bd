/-
  A child's pages are its parent's, in plain words. Condition: none.
-/
import Derived.Test.YtlecfdchmcghlaaSpG
import Derived.Test.YtlecfdchmcghlaaSpQ7
import Derived.Test.YtlecfdchmcghlaaSpN2
import Derived.Test.YtlecfdchmcghlaaSpH
namespace Go.Proofs.Ytlecfdchmcghlaa
section
open Go.RowKit
set_option linter.unusedVariables false

theorem cntF_zero (k : Nat) : ∀ n, cntF m0 k n = 0
  | 0 => rfl
  | n + 1 => by rw [cntF, cntF_zero k n]; rfl
theorem cntS_zero (k : Nat) : ∀ s, cntS (fun _ => m0) k s = 0
  | 0 => rfl
  | s + 1 => by rw [cntS, cntS_zero k s, cntF_zero]
theorem GI.start {n : Nat} (hn : 1 ≤ n ∧ n ≤ 256) (s : Nat) : GI (Fs.new n) (fun _ => m0) s :=
  ⟨Fs.new_ok hn, (fun _ _ _ _ _ h => by cases h), fun k => (cntS_zero k s).symm, fun _ _ => rfl, (fun _ _ _ _ _ _ _ _ _ _ h => by cases h), (fun _ _ _ _ _ h => by cases h), (fun _ _ _ _ _ h => by cases h)⟩
theorem dropGo_far (F : Fs) (m : M) (p : Nat) : ∀ k, (∀ j y, j < k → (list m)[j]? = some y → y.1 ≠ p) → (dropGo F m (list m) k).2 p = m p
  | 0, _ => rfl
  | k + 1, h => by
    have ih := dropGo_far F m p k (fun j y hj hy => h j y (by omega) hy)
    rw [dropGo]
    split
    · next y hy =>
      show upd _ y.1 _ p = _
      rw [upd_other _ _ (fun e => h k y (by omega) hy e.symm)]
      exact ih
    · exact ih
theorem GI.dropGo {F : Fs} {ms : Nat → M} {s i : Nat} (h : GI F ms s) (hi : i < s) :
    ∀ k, k ≤ (list (ms i)).length → GI (dropGo F (ms i) (list (ms i)) k).1 (updS ms i (dropGo F (ms i) (list (ms i)) k).2) s
  | 0, _ => by
    show GI F (updS ms i (ms i)) s
    rw [updS_self]; exact h
  | k + 1, hk => by
    have ih := GI.dropGo h hi k (by omega)
    obtain ⟨y, hy⟩ : ∃ y, (list (ms i))[k]? = some y := ⟨_, List.getElem?_eq_getElem (by omega)⟩
    obtain ⟨hp, hx⟩ := list_get hy
    have hfar := dropGo_far F (ms i) y.1 k (fun j z hj hz e => by have := list_apart hz hy hj; omega)
    rw [dropGo_succ hy]
    exact ih.at_unmap hi hp (hfar.trans hx)
theorem dropGo_gone (F : Fs) (m : M) (l : List (Nat × E)) (p : Nat) : ∀ k, (m p = none ∨ ∃ j y, j < k ∧ l[j]? = some y ∧ y.1 = p) → (dropGo F m l k).2 p = none
  | 0, h => by
    rcases h with h | ⟨j, _, hj, _⟩
    · exact h
    · omega
  | k + 1, h => by
    rw [dropGo]
    split
    · next y hy =>
      show upd _ y.1 _ p = none
      by_cases e : p = y.1
      · rw [e, upd_same]
      · rw [upd_other _ _ e]
        refine dropGo_gone F m l p k ?_
        rcases h with h | ⟨j, z, hj, hz, hp⟩
        · exact .inl h
        · by_cases hjk : j = k
          · subst hjk
            rw [hy] at hz
            cases hz
            exact absurd hp.symm e
          · exact .inr ⟨j, z, by omega, hz, hp⟩
    · next hy =>
      refine dropGo_gone F m l p k ?_
      rcases h with h | ⟨j, z, hj, hz, hp⟩
      · exact .inl h
      · by_cases hjk : j = k
        · subst hjk
          rw [hy] at hz
          cases hz
        · exact .inr ⟨j, z, by omega, hz, hp⟩
/-- Behind Drop no page is mapped. -/
theorem drop_none (F : Fs) (m : M) {p : Nat} (hp : p < 64) : (dropGo F m (list m) (list m).length).2 p = none := by
  refine dropGo_gone F m (list m) p _ ?_
  cases hm : m p with
  | none => exact .inl rfl
  | some x =>
    have := list_mem6 m 64 0 p x (by omega) (by omega) hm
    obtain ⟨j, hj, e⟩ := List.getElem_of_mem this
    exact .inr ⟨j, (p, x), hj, by unfold list; rw [List.getElem?_eq_getElem hj, e], rfl⟩
theorem mapGo_r (F : Fs) (m : M) (p : Nat) (wr sh : Bool) (f : Nat) (hf : F.r f ≠ 0) : ∀ k, (mapGo F m p wr sh k).1.r f = F.r f
  | 0 => rfl
  | k + 1 => by
    have ih := mapGo_r F m p wr sh f hf k
    rw [mapGo]
    split
    · next j hj =>
      show (if f = j then 1 else _) = _
      have := (freeK_some hj).2
      rw [if_neg (fun e => by rw [← e, ih] at this; exact hf this)]
      exact ih
    · exact ih
/-- A page that was mapped has a frame that was free. -/
theorem mapGo_new {F : Fs} {m : M} {p n : Nat} (hn : (n : Int) ≤ freeN F) (wr sh : Bool) : ∀ k, k ≤ n → ∀ j, j < k → ∃ f : Nat, (mapGo F m p wr sh k).2 (p + j) = some ⟨(f : Int), wr, sh, false, true⟩ ∧ F.r f = 0
  | 0, _, j, hj => absurd hj (Nat.not_lt_zero _)
  | k + 1, hk, j, hj => by
    have hfr := mapGo_free F m p wr sh k (by omega)
    obtain ⟨i, hi⟩ := freeK_of (F := (mapGo F m p wr sh k).1) (by omega)
    rw [mapGo_succ hi]
    show ∃ f : Nat, upd _ (p + k) _ (p + j) = _ ∧ _
    by_cases e : j = k
    · subst e
      refine ⟨i, upd_same _ _ _, ?_⟩
      have h0 := (freeK_some hi).2
      by_cases h1 : F.r i = 0
      · exact h1
      · rw [mapGo_r F m p wr sh i h1 j] at h0
        exact absurd h0 h1
    · rw [upd_other _ _ (by omega)]
      exact mapGo_new hn wr sh k (by omega) j (by omega)
/-- Pages that are mapped read as noughts. -/
theorem map_zero {F : Fs} {ms : Nat → M} {s i p n : Nat} (h : GI F ms s) (hn : (n : Int) ≤ freeN F) (wr sh : Bool) {j : Nat} (hj : j < n) : pageP (mapGo F (ms i) p wr sh n).1 (mapGo F (ms i) p wr sh n).2 (p + j) = z64 := by
  obtain ⟨f, h1, h2⟩ := mapGo_new (m := ms i) (p := p) hn wr sh n (Nat.le_refl _) j hj
  unfold pageP
  rw [h1]
  show (mapGo F (ms i) p wr sh n).1.b (f : Int).toNat = z64
  rw [mapGo_b, Int.toNat_natCast]
  exact h.zero f h2
theorem cntF_ext {m m' : M} (k : Nat) : ∀ n, (∀ p, p < n → m p = m' p) → cntF m k n = cntF m' k n
  | 0, _ => rfl
  | n + 1, h => by rw [cntF, cntF, cntF_ext k n (fun p hp => h p (by omega)), h n (by omega)]
end
end Go.Proofs.Ytlecfdchmcghlaa
namespace Go.Proofs.Ytlecfdchmcghlaa
section
open Go.RowKit
set_option linter.unusedVariables false

theorem unmapGo_gone (F : Fs) (m : M) (p : Nat) : ∀ k j, j < k → (unmapGo F m p k).2 (p + j) = none
  | 0, j, h => absurd h (Nat.not_lt_zero _)
  | k + 1, j, h => by
    rw [unmapGo]
    split
    · next x hx =>
      show upd _ (p + k) none (p + j) = none
      by_cases e : j = k
      · subst e; exact upd_same _ _ _
      · rw [upd_other _ _ (by omega)]
        exact unmapGo_gone F m p k j (by omega)
    · next hx =>
      by_cases e : j = k
      · subst e; exact hx
      · exact unmapGo_gone F m p k j (by omega)
theorem cntP_full {m : M} {p : Nat} : ∀ {n}, (∀ j, j < n → (m (p + j)).isSome = true) → cntP m p n = n
  | 0, _ => rfl
  | n + 1, h => by
    rw [cntP, cntP_full (fun j hj => h j (by omega)), if_pos (h n (by omega))]
theorem dropF_b (F : Fs) (f : Int) {k : Nat} (h : f ≠ (k : Int)) : (dropF F f).b k = F.b k := by
  unfold dropF
  split
  · next hc =>
    split
    · show (if k = f.toNat then z64 else F.b k) = F.b k
      rw [if_neg (by omega)]
    · rfl
  · rfl
theorem dropF_n (F : Fs) (f : Int) : (dropF F f).n = F.n := by
  unfold dropF
  split
  · split <;> rfl
  · rfl
theorem mapGo_n (F : Fs) (m : M) (p : Nat) (wr sh : Bool) : ∀ k, (mapGo F m p wr sh k).1.n = F.n
  | 0 => rfl
  | k + 1 => by
    rw [mapGo]
    split
    · exact mapGo_n F m p wr sh k
    · exact mapGo_n F m p wr sh k
theorem unmapGo_n (F : Fs) (m : M) (p : Nat) : ∀ k, (unmapGo F m p k).1.n = F.n
  | 0 => rfl
  | k + 1 => by
    rw [unmapGo]
    split
    · exact (dropF_n _ _).trans (unmapGo_n F m p k)
    · exact unmapGo_n F m p k
theorem unmapGo_b (F : Fs) (m : M) (p g : Nat) : ∀ k, (∀ j x, j < k → m (p + j) = some x → x.f ≠ (g : Int)) → (unmapGo F m p k).1.b g = F.b g
  | 0, _ => rfl
  | k + 1, h => by
    have ih := unmapGo_b F m p g k (fun j x hj hx => h j x (by omega) hx)
    rw [unmapGo]
    split
    · next x hx =>
      rw [unmapGo_far F m p k (p + k) (.inr (Nat.le_refl _))] at hx
      exact (dropF_b _ _ (h k x (by omega) hx)).trans ih
    · exact ih
/-- Mapped, and unmapped: pages, counts, bytes, and how many are free, are as they were. -/
theorem map_back {F : Fs} {ms : Nat → M} {s i p n : Nat} (h : GI F ms s) (hi : i < s) (hp : p + n ≤ 64) (hc : cntP (ms i) p n = 0) (hf : (n : Int) ≤ freeN F) (wr sh : Bool) :
    (unmapGo (mapGo F (ms i) p wr sh n).1 (mapGo F (ms i) p wr sh n).2 p n).2 = ms i ∧
    (∀ k, (unmapGo (mapGo F (ms i) p wr sh n).1 (mapGo F (ms i) p wr sh n).2 p n).1.r k = F.r k) ∧
    (∀ k, (unmapGo (mapGo F (ms i) p wr sh n).1 (mapGo F (ms i) p wr sh n).2 p n).1.b k = F.b k) ∧
    freeN (unmapGo (mapGo F (ms i) p wr sh n).1 (mapGo F (ms i) p wr sh n).2 p n).1 = freeN F ∧
    cntP (mapGo F (ms i) p wr sh n).2 p n = n := by
  have hnew := fun j hj => mapGo_new (m := ms i) (p := p) hf wr sh n (Nat.le_refl _) j hj
  have hfull : cntP (mapGo F (ms i) p wr sh n).2 p n = n := cntP_full (fun j hj => by
    obtain ⟨f, h1, _⟩ := hnew j hj
    rw [h1]; rfl)
  have hm : (unmapGo (mapGo F (ms i) p wr sh n).1 (mapGo F (ms i) p wr sh n).2 p n).2 = ms i := by
    funext q
    by_cases hq : p ≤ q ∧ q < p + n
    · obtain ⟨j, rfl⟩ : ∃ j, q = p + j := ⟨q - p, by omega⟩
      rw [unmapGo_gone _ _ _ n j (by omega), cntP_none hc j (by omega)]
    · rw [unmapGo_far _ _ _ n q (by omega), mapGo_far _ _ _ _ _ n q (by omega)]
  have hG := h.mapGo hi hp hc hf wr sh n (Nat.le_refl _)
  have hU := hG.unmapGo (i := i) (p := p) (n := n) hi hp (by rw [updS_same]; exact hfull) n (Nat.le_refl _)
  rw [updS_same, updS_updS, hm, updS_self] at hU
  have hr : ∀ k, (unmapGo (mapGo F (ms i) p wr sh n).1 (mapGo F (ms i) p wr sh n).2 p n).1.r k = F.r k := fun k => (hU.cnt k).trans (h.cnt k).symm
  refine ⟨hm, hr, fun k => ?_, freeN_same ((unmapGo_n _ _ _ _).trans (mapGo_n _ _ _ _ _ _)) (fun k => by rw [hr k]), hfull⟩
  by_cases hk : F.r k = 0
  · rw [hU.zero k (by rw [hr k]; exact hk), h.zero k hk]
  · rw [unmapGo_b _ _ _ _ _ (fun j x hj hx => ?_), mapGo_b]
    obtain ⟨f, h1, h2⟩ := hnew j hj
    rw [h1] at hx
    cases hx
    show ((f : Nat) : Int) ≠ (k : Int)
    intro e
    have e : f = k := by omega
    rw [e] at h2
    exact hk h2
end
end Go.Proofs.Ytlecfdchmcghlaa
namespace Go.Proofs.Ytlecfdchmcghlaa
section
open Go.RowKit
set_option linter.unusedVariables false

theorem GI.same {F : Fs} {ms : Nat → M} {s : Nat} (h : GI F ms s) (i : Nat) : GI F (updS ms i (ms i)) s := by rw [updS_self]; exact h
theorem GI.mapA {F : Fs} {ms : Nat → M} {s i : Nat} (h : GI F ms s) (hi : i < s) (p n : Int) (wr sh : Bool) : GI (mapA F (ms i) p n wr sh).2.1 (updS ms i (mapA F (ms i) p n wr sh).2.2) s := by
  unfold Go.Proofs.Ytlecfdchmcghlaa.mapA
  split
  · next hp =>
    obtain ⟨h1, h2, h3, h4⟩ := hp
    split
    · exact h.same i
    · next hc =>
      split
      · exact h.same i
      · next hf =>
        have hc : cntP (ms i) p.toNat n.toNat = 0 := Classical.byContradiction fun e => hc e
        exact h.mapGo hi (by omega) hc (by omega) wr sh n.toNat (Nat.le_refl _)
  · exact h.same i
theorem GI.unmapA {F : Fs} {ms : Nat → M} {s i : Nat} (h : GI F ms s) (hi : i < s) (p n : Int) : GI (unmapA F (ms i) p n).2.1 (updS ms i (unmapA F (ms i) p n).2.2) s := by
  unfold Go.Proofs.Ytlecfdchmcghlaa.unmapA
  split
  · next hp =>
    obtain ⟨h1, h2, h3, h4⟩ := hp
    split
    · exact h.same i
    · next hc =>
      have hc : cntP (ms i) p.toNat n.toNat = n.toNat := Classical.byContradiction fun e => hc e
      exact h.unmapGo hi (by omega) hc n.toNat (Nat.le_refl _)
  · exact h.same i
theorem GI.writeA {F : Fs} {ms : Nat → M} {s i : Nat} (h : GI F ms s) (hi : i < s) (a : Nat) {bs : List Int} (hk : bs.length ≤ 4096) (hlow : ∀ x ∈ bs, 0 ≤ x ∧ x ≤ 255) : GI (writeA F (ms i) a bs).2.1 (updS ms i (writeA F (ms i) a bs).2.2) s := by
  unfold Go.Proofs.Ytlecfdchmcghlaa.writeA
  split
  · next hO =>
    split
    · exact h.same i
    · next hf => exact h.writeGo hi hk ((okB_iff _ _ _ _).1 hO) (by omega) hlow _ (Nat.le_refl _)
  · exact h.same i
end
end Go.Proofs.Ytlecfdchmcghlaa
namespace Go.Proofs.Ytlecfdchmcghlaa
section
open Go.RowKit
set_option linter.unusedVariables false

theorem shareF_b (F : Fs) (f : Int) : (shareF F f).b = F.b := by
  unfold shareF
  split <;> rfl
theorem clG_b (F : Fs) (m : M) (l : List (Nat × E)) : ∀ k, (clG F m l k).1.b = F.b
  | 0 => rfl
  | k + 1 => by
    rw [clG]
    split
    · exact (shareF_b _ _).trans (clG_b F m l k)
    · exact clG_b F m l k
theorem clG_hit (F : Fs) (m : M) {j : Nat} {y : Nat × E} (hy : (list m)[j]? = some y) : ∀ k, j < k → (clG F m (list m) k).2.1 y.1 = some (cowE y.2) ∧ (clG F m (list m) k).2.2 y.1 = some (cowE y.2)
  | 0, h => absurd h (Nat.not_lt_zero _)
  | k + 1, h => by
    rw [clG]
    by_cases e : j = k
    · subst e
      rw [hy]
      exact ⟨upd_same _ _ _, upd_same _ _ _⟩
    · have ih := clG_hit F m hy k (by omega)
      split
      · next z hz =>
        have hlt := list_apart hy hz (by omega)
        refine ⟨?_, ?_⟩
        · show upd _ z.1 _ y.1 = _
          rw [upd_other _ _ (by omega)]; exact ih.1
        · show upd _ z.1 _ y.1 = _
          rw [upd_other _ _ (by omega)]; exact ih.2
      · exact ih
/-- Behind Clone both have each page's entry, Cow where it is Write and not Shared. -/
theorem clone_pages (F : Fs) (m : M) {p : Nat} (hp : p < 64) : (clG F m (list m) (list m).length).2.1 p = (m p).map cowE ∧ (clG F m (list m) (list m).length).2.2 p = (m p).map cowE := by
  cases hm : m p with
  | none =>
    have := clG_far F m p (list m).length (fun j y _ hy e => by
      have h := (list_get hy).2
      rw [e, hm] at h
      cases h)
    rw [this.1, this.2, hm]
    exact ⟨rfl, rfl⟩
  | some x =>
    have hmem := list_mem6 m 64 0 p x (by omega) (by omega) hm
    obtain ⟨j, hj, e⟩ := List.getElem_of_mem hmem
    have hy : (list m)[j]? = some (p, x) := by unfold list; rw [List.getElem?_eq_getElem hj, e]
    exact clG_hit F m hy _ hj
/-- A child reads what its parent reads, and that reads what it did. -/
theorem clone_reads (F : Fs) (m : M) {p : Nat} (hp : p < 64) : pageP (clG F m (list m) (list m).length).1 (clG F m (list m) (list m).length).2.1 p = pageP F m p ∧ pageP (clG F m (list m) (list m).length).1 (clG F m (list m) (list m).length).2.2 p = pageP F m p := by
  obtain ⟨h1, h2⟩ := clone_pages F m hp
  unfold pageP
  rw [h1, h2, clG_b]
  cases m p with
  | none => exact ⟨rfl, rfl⟩
  | some x => exact ⟨rfl, rfl⟩
end
end Go.Proofs.Ytlecfdchmcghlaa
