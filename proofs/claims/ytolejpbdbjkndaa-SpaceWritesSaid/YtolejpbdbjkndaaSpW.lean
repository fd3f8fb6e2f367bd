/-
  What the law of clones asks, in plain words: how many frames are free, what is turned by a write or by Drop of another space. Condition: none.
-/
import Derived.Test.YtolejpbdbjkndaaSpU
namespace Go.Proofs.Ytolejpbdbjkndaa
open Go.RowKit Go.Shelf
set_option linter.unusedVariables false
set_option linter.unusedSimpArgs false

def sumN (f : Nat → Nat) : Nat → Nat
  | 0 => 0
  | n + 1 => sumN f n + f n
theorem sumN_add (f g : Nat → Nat) : ∀ n, sumN (fun k => f k + g k) n = sumN f n + sumN g n
  | 0 => rfl
  | n + 1 => by rw [sumN, sumN, sumN, sumN_add f g n]; omega
theorem sumN_zero : ∀ n, sumN (fun _ => 0) n = 0
  | 0 => rfl
  | n + 1 => by rw [sumN, sumN_zero n]
theorem sumN_ext {f g : Nat → Nat} : ∀ n, (∀ k, k < n → f k = g k) → sumN f n = sumN g n
  | 0, _ => rfl
  | n + 1, h => by rw [sumN, sumN, sumN_ext n (fun k hk => h k (by omega)), h n (by omega)]
theorem sum_ind {x : E} {f : Nat} (hf : x.f = (f : Int)) : ∀ n, sumN (fun k => ind (some x) k) n = if f < n then 1 else 0
  | 0 => rfl
  | n + 1 => by
    rw [sumN, sum_ind hf n]
    show _ + (if x.f = (n : Int) then 1 else 0) = _
    rw [hf]
    by_cases h1 : f < n
    · rw [if_pos h1, if_neg (by omega), if_pos (by omega)]
    · rw [if_neg h1]
      by_cases h2 : f = n
      · rw [if_pos (by omega), if_pos (by omega)]
      · rw [if_neg (by omega), if_neg (by omega)]
/-- How many of the first pages are mapped. -/
def mapN (m : M) : Nat → Nat
  | 0 => 0
  | p + 1 => mapN m p + (if (m p).isSome then 1 else 0)
theorem mapN_ext {m m' : M} : ∀ n, (∀ p, p < n → (m p).isSome = (m' p).isSome) → mapN m n = mapN m' n
  | 0, _ => rfl
  | n + 1, h => by rw [mapN, mapN, mapN_ext n (fun k hk => h k (by omega)), h n (by omega)]
theorem mapN_none {m : M} : ∀ n, (∀ p, p < n → m p = none) → mapN m n = 0
  | 0, _ => rfl
  | n + 1, h => by rw [mapN, mapN_none n (fun k hk => h k (by omega)), h n (by omega)]; rfl
theorem sum_cntF {m : M} {n : Nat} : ∀ j, (∀ p x, p < j → m p = some x → ∃ f : Nat, x.f = f ∧ f < n) → sumN (fun k => cntF m k j) n = mapN m j
  | 0, _ => sumN_zero n
  | j + 1, h => by
    have ih := sum_cntF j (fun p x hp hx => h p x (by omega) hx)
    show sumN (fun k => cntF m k j + ind (m j) k) n = _
    rw [sumN_add, ih, mapN]
    cases hm : m j with
    | none =>
      have : sumN (fun k => ind none k) n = 0 := sumN_zero n
      rw [this]; rfl
    | some x =>
      obtain ⟨f, hf, hn⟩ := h j x (by omega) hm
      rw [sum_ind hf, if_pos hn]; rfl
theorem cntF_no {m : M} {k : Nat} : ∀ n, (∀ p x, p < n → m p = some x → x.f ≠ (k : Int)) → cntF m k n = 0
  | 0, _ => rfl
  | n + 1, h => by
    rw [cntF, cntF_no n (fun p x hp hx => h p x (by omega) hx)]
    cases hm : m n with
    | none => rfl
    | some x =>
      show 0 + (if x.f = (k : Int) then 1 else 0) = 0
      rw [if_neg (h n x (by omega) hm)]
theorem cntF_one {m : M} {k : Nat} : ∀ n, (∀ p p' x y, p < n → p' < n → m p = some x → m p' = some y → x.f = (k : Int) → y.f = (k : Int) → p = p') → cntF m k n ≤ 1
  | 0, _ => Nat.zero_le _
  | n + 1, h => by
    have ih := cntF_one n (fun p p' x y hp hp' => h p p' x y (by omega) (by omega))
    rw [cntF]
    cases hm : m n with
    | none => exact ih
    | some x =>
      show cntF m k n + (if x.f = (k : Int) then 1 else 0) ≤ 1
      by_cases he : x.f = (k : Int)
      · rw [if_pos he, cntF_no n (fun p y hp hy e => by have := h p n y x (by omega) (by omega) hy hm e he; omega)]
        exact Nat.le_refl _
      · rw [if_neg he]; exact ih
theorem usedN_sum {F : Fs} : ∀ n, (∀ k, k < n → F.r k ≤ 1) → (usedN F n).length = sumN F.r n
  | 0, _ => rfl
  | n + 1, h => by
    have := h n (by omega)
    rw [usedN, List.length_append, usedN_sum n (fun k hk => h k (by omega)), sumN]
    by_cases h0 : F.r n = 0
    · rw [if_pos h0, h0]; rfl
    · rw [if_neg h0, show F.r n = 1 by omega]; rfl
/-- Of one space: as many frames are used as pages are mapped. -/
theorem freeN_one {F : Fs} {m : M} (h : GI F (fun _ => m) 1) : freeN F = F.n - (mapN m 64 : Nat) := by
  have hr : ∀ k, F.r k = cntF m k 64 := fun k => by rw [h.cnt k, cntS, cntS, Nat.zero_add]
  have h1 : ∀ k, F.r k ≤ 1 := fun k => by
    rw [hr]
    exact cntF_one 64 fun p p' x y hp hp' hx hy e e' => (h.page 0 0 p p' x y (by decide) (by decide) hp hp' hx hy (e.trans e'.symm)).1
  have h2 := usedN_sum (F := F) F.n (fun k _ => h1 k)
  rw [sumN_ext F.n (fun k _ => hr k), sum_cntF 64 (fun p x hp hx => h.rng 0 p x (by decide) hp hx)] at h2
  unfold freeN usedL
  rw [h2]
/-- Of several spaces, of which all but one have no page, what holds of that one. -/
theorem GI.alone {F : Fs} {ms : Nat → M} {s i : Nat} (h : GI F ms s) (hi : i < s) (hn : ∀ j p, j < s → j ≠ i → p < 64 → ms j p = none) : GI F (fun _ => ms i) 1 := by
  have hc : ∀ k s', s' ≤ s → cntS ms k s' = if i < s' then cntF (ms i) k 64 else 0 := fun k s' => by
    induction s' with
    | zero => intro _; rfl
    | succ t ih =>
      intro ht
      rw [cntS, ih (by omega)]
      by_cases e : t = i
      · subst e
        rw [if_neg (by omega), if_pos (by omega), Nat.zero_add]
      · rw [cntF_no (m := ms t) 64 (fun p x hp hx => by rw [hn t p (by omega) e hp] at hx; cases hx)]
        by_cases e2 : i < t
        · rw [if_pos e2, if_pos (by omega), Nat.add_zero]
        · rw [if_neg e2, if_neg (by omega)]
  refine ⟨h.fok, fun _ p x _ hp hx => h.rng i p x hi hp hx, fun k => ?_, h.zero, fun _ _ p p' x y _ _ hp hp' hx hy => h.page i i p p' x y hi hi hp hp' hx hy, fun _ p x _ hp hx => h.eok i p x hi hp hx, fun _ p x _ hp hx => h.own1 i p x hi hp hx⟩
  rw [h.cnt k, hc k s (Nat.le_refl _), if_pos hi, cntS, cntS, Nat.zero_add]
/-! How many frames there are. -/
theorem dropF_n2 (F : Fs) (f : Int) : (dropF F f).n = F.n := dropF_n F f
theorem ownS_n (F : Fs) (x : E) : (ownS F x).n = F.n := by
  unfold ownS
  split
  · split
    · exact (dropF_n _ _).trans rfl
    · rfl
  · rfl
theorem writeGo_n (F : Fs) (m : M) (a k : Nat) (bs : List Int) : ∀ j, (writeGo F m a k bs j).1.n = F.n
  | 0 => rfl
  | j + 1 => by
    have ih := writeGo_n F m a k bs j
    rw [writeGo]
    split
    · show (ownS _ _).n = F.n
      rw [ownS_n]; exact ih
    · exact ih
theorem writeA_n (F : Fs) (m : M) (a : Nat) (bs : List Int) : (writeA F m a bs).2.1.n = F.n := by
  unfold writeA
  split
  · split
    · rfl
    · exact writeGo_n F m a _ bs _
  · rfl
theorem mapA_n (F : Fs) (m : M) (p n : Int) (wr sh : Bool) : (mapA F m p n wr sh).2.1.n = F.n := by
  rcases mapA_cases F m p n wr sh with h | ⟨h, _⟩ | ⟨P, N, _, _, _, _, _, _, h⟩
  · rw [h]
  · rw [h]
  · rw [h]; exact mapGo_n F m P wr sh N
theorem shareF_n (F : Fs) (f : Int) : (shareF F f).n = F.n := by
  unfold shareF
  split <;> rfl
theorem clG_n (F : Fs) (m : M) (l : List (Nat × E)) : ∀ k, (clG F m l k).1.n = F.n
  | 0 => rfl
  | k + 1 => by
    rw [clG]
    split
    · exact (shareF_n _ _).trans (clG_n F m l k)
    · exact clG_n F m l k
theorem dropGo_n (F : Fs) (m : M) (l : List (Nat × E)) : ∀ k, (dropGo F m l k).1.n = F.n
  | 0 => rfl
  | k + 1 => by
    rw [dropGo]
    split
    · exact (dropF_n _ _).trans (dropGo_n F m l k)
    · exact dropGo_n F m l k
/-! Which frames are free behind Clone. -/
theorem shareF_r (F : Fs) (f : Int) (k : Nat) : (shareF F f).r k = 0 ↔ F.r k = 0 := by
  unfold shareF
  split
  · next h =>
    show (if k = f.toNat then F.r f.toNat + 1 else F.r k) = 0 ↔ _
    by_cases e : k = f.toNat
    · rw [if_pos e, e]
      have := h.2.2
      omega
    · rw [if_neg e]
  · exact Iff.rfl
theorem clG_r (F : Fs) (m : M) (l : List (Nat × E)) (k : Nat) : ∀ j, (clG F m l j).1.r k = 0 ↔ F.r k = 0
  | 0 => Iff.rfl
  | j + 1 => by
    rw [clG]
    split
    · exact (shareF_r _ _ k).trans (clG_r F m l k j)
    · exact clG_r F m l k j
theorem clG_free (F : Fs) (m : M) (l : List (Nat × E)) (j : Nat) : freeN (clG F m l j).1 = freeN F := freeN_same (clG_n F m l j) (fun k => clG_r F m l k j)
/-! What another space sees. -/
theorem dropF_kept (F : Fs) (f : Int) {k : Nat} (h : f = (k : Int) → F.r k ≠ 1) : (dropF F f).b k = F.b k := by
  unfold dropF
  split
  · next hc =>
    split
    · next h1 =>
      show (if k = f.toNat then z64 else F.b k) = F.b k
      rw [if_neg (fun e => by
        rw [← e] at h1
        exact h (by omega) h1)]
    · rfl
  · rfl
theorem drop_other {F : Fs} {ms : Nat → M} {s i i' : Nat} (h : GI F ms s) (hi : i < s) (hi' : i' < s) (hne : i' ≠ i) {p : Nat} {y : E} (hp : p < 64) (hy : ms i' p = some y) :
    ∀ k, k ≤ (list (ms i)).length → (dropGo F (ms i) (list (ms i)) k).1.b y.f.toNat = F.b y.f.toNat
  | 0, _ => rfl
  | k + 1, hk => by
    have ih := drop_other h hi hi' hne hp hy k (by omega)
    have hG := h.dropGo hi k (by omega)
    obtain ⟨z, hz⟩ : ∃ z, (list (ms i))[k]? = some z := ⟨_, List.getElem?_eq_getElem (by omega)⟩
    obtain ⟨hzp, hzx⟩ := list_get hz
    have hfar := dropGo_far F (ms i) z.1 k (fun j u hj hu e => by have := list_apart hu hz hj; omega)
    rw [dropGo_succ hz]
    refine (dropF_kept _ _ (fun e => ?_)).trans ih
    obtain ⟨f, hf, hfn⟩ := h.rng i' p y hi' hp hy
    rw [hf, Int.toNat_natCast] at e ⊢
    have h2 := hG.two (i := i) (p := z.1) (i' := i') (p' := p) (x := z.2) (y := y) (f := f) hi hzp hi' hp (by rw [updS_same]; exact hfar.trans hzx) (by rw [updS_other _ _ hne]; exact hy) e hf (.inl hne)
    omega
theorem pageP_kept {F F' : Fs} {m : M} {p : Nat} (h : ∀ x, m p = some x → F'.b x.f.toNat = F.b x.f.toNat) : pageP F' m p = pageP F m p := by
  unfold pageP
  cases hm : m p with
  | none => rfl
  | some x => exact h x hm
/-- Drop of one space leaves all others' pages. -/
theorem drop_pages {F : Fs} {ms : Nat → M} {s i i' : Nat} (h : GI F ms s) (hi : i < s) (hi' : i' < s) (hne : i' ≠ i) : pgV (dropGo F (ms i) (list (ms i)) (list (ms i)).length).1 (ms i') = pgV F (ms i') :=
  pgV_ext fun p hp => pageP_kept fun x hx => drop_other h hi hi' hne hp hx _ (Nat.le_refl _)
/-- A write into a space whose pages are not Shared leaves all others' pages. -/
theorem write_pages {F : Fs} {ms : Nat → M} {s i i' : Nat} (h : GI F ms s) (hi : i < s) (hi' : i' < s) (hne : i' ≠ i) (hns : ∀ p x, p < 64 → ms i p = some x → x.s = false) (a : Nat) {bs : List Int} (hk : bs.length ≤ 4096) (hlow : ∀ x ∈ bs, 0 ≤ x ∧ x ≤ 255) :
    pgV (writeA F (ms i) a bs).2.1 (ms i') = pgV F (ms i') := by
  unfold writeA
  split
  · next hO =>
    split
    · rfl
    · next hf =>
      refine pgV_ext fun p hp => pageP_kept fun x hx => ?_
      have hw := write_other (bs := bs) h hi hi' hne hk ((okB_iff _ _ _ _).1 hO) (by omega) hlow _ (Nat.le_refl _)
      exact hw.else_ p x hp hx (fun u hu hs _ _ _ => by rw [hns p u hp hu] at hs; cases hs)
  · rfl
/-- What a write leaves of a space: which pages are mapped, and what is Shared. -/
theorem writeA_keeps {F : Fs} {ms : Nat → M} {s i : Nat} (h : GI F ms s) (hi : i < s) (a : Nat) {bs : List Int} (hk : bs.length ≤ 4096) (hlow : ∀ x ∈ bs, 0 ≤ x ∧ x ≤ 255) :
    (∀ p, p < 64 → ((writeA F (ms i) a bs).2.2 p).isSome = (ms i p).isSome) ∧ ∀ p x y, p < 64 → ms i p = some x → (writeA F (ms i) a bs).2.2 p = some y → y.w = x.w ∧ y.s = x.s := by
  have hself : (∀ p, p < 64 → (ms i p).isSome = (ms i p).isSome) ∧ ∀ p x y, p < 64 → ms i p = some x → ms i p = some y → y.w = x.w ∧ y.s = x.s :=
    ⟨fun _ _ => rfl, fun p x y _ hx hy => by rw [hx] at hy; cases hy; exact ⟨rfl, rfl⟩⟩
  unfold writeA
  split
  · next hO =>
    split
    · exact hself
    · next hf =>
      obtain ⟨_, _, hB⟩ := writeGo_all (bs := bs) (h.spOk hi) h.fok hk ((okB_iff _ _ _ _).1 hO) (by omega) hlow _ (Nat.le_refl _)
      exact ⟨hB.there, hB.flags⟩
  · exact hself
/-- No page is Shared. -/
def NS (m : M) : Prop := ∀ p x, p < 64 → m p = some x → x.s = false
theorem NS.start : NS m0 := fun p x _ h => by cases h
theorem NS.write {F : Fs} {ms : Nat → M} {s i : Nat} (h : GI F ms s) (hi : i < s) (hn : NS (ms i)) (a : Nat) {bs : List Int} (hk : bs.length ≤ 4096) (hlow : ∀ x ∈ bs, 0 ≤ x ∧ x ≤ 255) : NS (writeA F (ms i) a bs).2.2 := fun p y hp hy => by
  obtain ⟨h1, h2⟩ := writeA_keeps h hi a hk hlow
  have h3 := h1 p hp
  rw [hy] at h3
  cases hx : ms i p with
  | none => rw [hx] at h3; cases h3
  | some x => rw [(h2 p x y hp hx hy).2]; exact hn p x hp hx
theorem NS.mapGo {F : Fs} {m : M} (hn : NS m) (P : Nat) (wr : Bool) : ∀ k, NS (mapGo F m P wr false k).2
  | 0 => hn
  | k + 1 => by
    have ih := NS.mapGo (F := F) hn P wr k
    rw [Go.Proofs.Ytolejpbdbjkndaa.mapGo]
    split
    · intro p x hp hx
      have hx : upd _ (P + k) _ p = some x := hx
      by_cases e : p = P + k
      · subst e
        rw [upd_same] at hx
        cases hx
        rfl
      · rw [upd_other _ _ e] at hx
        exact ih p x hp hx
    · exact ih
theorem NS.map {F : Fs} {m : M} (hn : NS m) (p n : Int) (wr : Bool) : NS (mapA F m p n wr false).2.2 := by
  rcases mapA_cases F m p n wr false with h | ⟨h, _⟩ | ⟨P, N, _, _, _, _, _, _, h⟩
  · rw [h]; exact hn
  · rw [h]; exact hn
  · rw [h]; exact hn.mapGo P wr N
theorem NS.clone {F : Fs} {m : M} (hn : NS m) : NS (clG F m (list m) (list m).length).2.1 ∧ NS (clG F m (list m) (list m).length).2.2 := by
  have h : ∀ p x, p < 64 → (m p).map cowE = some x → x.s = false := fun p x hp hx => by
    cases hm : m p with
    | none => rw [hm] at hx; cases hx
    | some y =>
      rw [hm] at hx
      cases hx
      exact hn p y hp hm
  exact ⟨fun p x hp hx => h p x hp (by rw [← (clone_pages F m hp).1]; exact hx), fun p x hp hx => h p x hp (by rw [← (clone_pages F m hp).2]; exact hx)⟩
theorem clone_some (F : Fs) (m : M) {p : Nat} (hp : p < 64) : ((clG F m (list m) (list m).length).2.1 p).isSome = (m p).isSome ∧ ((clG F m (list m) (list m).length).2.2 p).isSome = (m p).isSome := by
  obtain ⟨h1, h2⟩ := clone_pages F m hp
  rw [h1, h2]
  cases m p <;> exact ⟨rfl, rfl⟩
theorem list_nil {m : M} (h : ∀ p, p < 64 → m p = none) : list m = [] := by
  cases hl : list m with
  | nil => rfl
  | cons y l =>
    have := list_get (m := m) (k := 0) (y := y) (by rw [hl]; rfl)
    rw [h y.1 this.1] at this
    cases this.2
/-- Pages as strings, 64 of them. -/
structure PgL (vl : List Value) : Prop where
  len : vl.length = 64
  one : ∀ v ∈ vl, v.oneCell' = true
  eq : ∀ w, (Op.equalIn 10000 41 (.agg vl.toArray) (.agg vl.toArray)).run Try.prog w = .ok true w
theorem pgV_list (F : Fs) (m : M) : ∃ vl, pgV F m = .agg vl.toArray ∧ PgL vl := ⟨pgL F m 64, rfl, pgL_len _ _ _, pgL_one _ _ _, fun w => eq_pages F m w⟩
/-- Two spaces. -/
def Sp2S (w W : World) (fb : Nat) (F : Fs) (ao bo : Nat) (ma mb : M) : Prop := ∃ lb cap sb bt q ms, AS w W fb lb cap F 2 sb bt q ms ∧ sb 0 = ao ∧ sb 1 = bo ∧ ms 0 = ma ∧ ms 1 = mb
/-- Three. -/
def Sp3S (w W : World) (fb : Nat) (F : Fs) (ao bo co : Nat) (ma mb mc : M) : Prop := ∃ lb cap sb bt q ms, AS w W fb lb cap F 3 sb bt q ms ∧ sb 0 = ao ∧ sb 1 = bo ∧ sb 2 = co ∧ ms 0 = ma ∧ ms 1 = mb ∧ ms 2 = mc
section
variable {w W W' : World} {fb : Nat} {F : Fs} {so ao bo co : Nat} {m ma mb mc : M}
theorem msClone (h : MS w W fb F so m) :
    Calls Try.prog 14 #[.pointer (some ⟨so, 0, none⟩)] W fun e W' => ∃ bo, e = .returned (.pointer (some ⟨bo, 0, none⟩)) ∧ Sp2S w W' fb (clG F m (list m) (list m).length).1 so bo (clG F m (list m) (list m).length).2.1 (clG F m (list m) (list m).length).2.2 ∧ KeepT W W' := by
  obtain ⟨lb, cap, sb, bt, q, ms, h, rfl, rfl⟩ := h
  refine (asClone h (i := 0) (by decide) (by decide)).mono ?_
  rintro e W' ⟨so, bo, qo, rfl, hA, hk⟩
  exact ⟨so, rfl, ⟨lb, cap, _, _, _, _, hA, updQ_other _ _ (by decide), updQ_same _ _ _, (updS_other _ _ (by decide)).trans (updS_same _ _ _), updS_same _ _ _⟩, hk⟩
theorem s2Clone (h : Sp2S w W fb F ao bo ma mb) :
    Calls Try.prog 14 #[.pointer (some ⟨ao, 0, none⟩)] W fun e W' => ∃ co, e = .returned (.pointer (some ⟨co, 0, none⟩)) ∧ Sp3S w W' fb (clG F ma (list ma) (list ma).length).1 ao bo co (clG F ma (list ma) (list ma).length).2.1 mb (clG F ma (list ma) (list ma).length).2.2 ∧ KeepT W W' := by
  obtain ⟨lb, cap, sb, bt, q, ms, h, rfl, rfl, rfl, rfl⟩ := h
  refine (asClone h (i := 0) (by decide) (by decide)).mono ?_
  rintro e W' ⟨so, bo, qo, rfl, hA, hk⟩
  exact ⟨so, rfl, ⟨lb, cap, _, _, _, _, hA, updQ_other _ _ (by decide), updQ_other _ _ (by decide), updQ_same _ _ _, (updS_other _ _ (by decide)).trans (updS_same _ _ _), (updS_other _ _ (by decide)).trans (updS_other _ _ (by decide)), updS_same _ _ _⟩, hk⟩
theorem Sp3S.below (h : Sp3S w W fb F ao bo co ma mb mc) (hb : Below W.heap.size W W') : Sp3S w W' fb F ao bo co ma mb mc := by
  obtain ⟨lb, cap, sb, bt, q, ms, h, e⟩ := h
  exact ⟨lb, cap, sb, bt, q, ms, h.below hb, e⟩
theorem Sp3S.lo (h : Sp3S w W fb F ao bo co ma mb mc) : Below w.heap.size w W := by
  obtain ⟨lb, cap, sb, bt, q, ms, h, e⟩ := h
  exact h.lo
end
/-- Three spaces, their pages va, vb, vc; fr: how many frames would be free, were there the third one alone. -/
def K3 (w W : World) (fb ao bo co : Nat) (va vb vc : List Value) (fr : Int) : Prop := ∃ F ma mb mc, Sp3S w W fb F ao bo co ma mb mc ∧ (NS ma ∧ NS mb) ∧ (pgV F ma = .agg va.toArray ∧ pgV F mb = .agg vb.toArray ∧ pgV F mc = .agg vc.toArray) ∧ (PgL va ∧ PgL vb ∧ PgL vc) ∧ (F.n : Int) - (mapN mc 64 : Nat) = fr
section
variable {w W W' : World} {fb ao bo co : Nat} {va vb vc : List Value} {fr : Int}
theorem K3.below (h : K3 w W fb ao bo co va vb vc fr) (hb : Below W.heap.size W W') : K3 w W' fb ao bo co va vb vc fr := by
  obtain ⟨F, ma, mb, mc, h, e⟩ := h
  exact ⟨F, ma, mb, mc, h.below hb, e⟩
theorem K3.drew (h : K3 w W fb ao bo co va vb vc fr) : K3 w W.drew fb ao bo co va vb vc fr := h.below (Below.refl _ _).drew
theorem K3.lo (h : K3 w W fb ao bo co va vb vc fr) : Below w.heap.size w W := by
  obtain ⟨F, ma, mb, mc, h, e⟩ := h
  exact h.lo
theorem K3.pg (h : K3 w W fb ao bo co va vb vc fr) : PgL va ∧ PgL vb ∧ PgL vc := by
  obtain ⟨F, ma, mb, mc, h, _, _, e, _⟩ := h
  exact e
theorem k3A (h : K3 w W fb ao bo co va vb vc fr) : Calls Try.prog 15 #[.pointer (some ⟨ao, 0, none⟩)] W fun e W' => e = .returned (.agg va.toArray) ∧ Below W.heap.size W W' := by
  obtain ⟨F, ma, mb, mc, ⟨lb, cap, sb, bt, q, ms, h, rfl, rfl, rfl, rfl, rfl, rfl⟩, _, ⟨h1, h2, h3⟩, _⟩ := h
  rw [← h1]
  exact asPages h (i := 0) (by decide)
theorem k3B (h : K3 w W fb ao bo co va vb vc fr) : Calls Try.prog 15 #[.pointer (some ⟨bo, 0, none⟩)] W fun e W' => e = .returned (.agg vb.toArray) ∧ Below W.heap.size W W' := by
  obtain ⟨F, ma, mb, mc, ⟨lb, cap, sb, bt, q, ms, h, rfl, rfl, rfl, rfl, rfl, rfl⟩, _, ⟨h1, h2, h3⟩, _⟩ := h
  rw [← h2]
  exact asPages h (i := 1) (by decide)
theorem k3C (h : K3 w W fb ao bo co va vb vc fr) : Calls Try.prog 15 #[.pointer (some ⟨co, 0, none⟩)] W fun e W' => e = .returned (.agg vc.toArray) ∧ Below W.heap.size W W' := by
  obtain ⟨F, ma, mb, mc, ⟨lb, cap, sb, bt, q, ms, h, rfl, rfl, rfl, rfl, rfl, rfl⟩, _, ⟨h1, h2, h3⟩, _⟩ := h
  rw [← h3]
  exact asPages h (i := 2) (by decide)
theorem k3WriteA (h : K3 w W fb ao bo co va vb vc fr) (a : Nat) {A : Option Addr} {c : Nat} {bs : List Int} (ha : a < 4294967296) (hb : BytesA w A c bs) (hl : bs.length ≤ 4096) :
    Calls Try.prog 12 #[.pointer (some ⟨ao, 0, none⟩), .int .u32 a, .slice A bs.length c] W fun e W' => (∃ v : Int, e = .returned (.int .i64 v)) ∧ (∃ va', K3 w W' fb ao bo co va' vb vc fr) ∧ KeepT W W' := by
  obtain ⟨F, ma, mb, mc, ⟨lb, cap, sb, bt, q, ms, h, rfl, rfl, rfl, rfl, rfl, rfl⟩, ⟨n1, n2⟩, ⟨h1, h2, h3⟩, ⟨p1, p2, p3⟩, hf⟩ := h
  refine (asWrite h (i := 0) (by decide) a ha hb hl).mono ?_
  rintro e W' ⟨rfl, q', hA, hk⟩
  obtain ⟨va', hv, hp⟩ := pgV_list (writeA F (ms 0) a bs).2.1 (writeA F (ms 0) a bs).2.2
  refine ⟨⟨_, rfl⟩, ⟨va', _, _, _, _, ⟨lb, cap, sb, bt, q', _, hA, rfl, rfl, rfl, updS_same _ _ _, updS_other _ _ (by decide), updS_other _ _ (by decide)⟩, ⟨n1.write h.gi (by decide) a hl hb.low, n2⟩, ⟨hv, ?_, ?_⟩, ⟨hp, p2, p3⟩, by rw [writeA_n]; exact hf⟩, hk⟩
  · rw [write_pages h.gi (i := 0) (i' := 1) (by decide) (by decide) (by decide) n1 a hl hb.low]; exact h2
  · rw [write_pages h.gi (i := 0) (i' := 2) (by decide) (by decide) (by decide) n1 a hl hb.low]; exact h3
theorem k3WriteB (h : K3 w W fb ao bo co va vb vc fr) (a : Nat) {A : Option Addr} {c : Nat} {bs : List Int} (ha : a < 4294967296) (hb : BytesA w A c bs) (hl : bs.length ≤ 4096) :
    Calls Try.prog 12 #[.pointer (some ⟨bo, 0, none⟩), .int .u32 a, .slice A bs.length c] W fun e W' => (∃ v : Int, e = .returned (.int .i64 v)) ∧ (∃ vb', K3 w W' fb ao bo co va vb' vc fr) ∧ KeepT W W' := by
  obtain ⟨F, ma, mb, mc, ⟨lb, cap, sb, bt, q, ms, h, rfl, rfl, rfl, rfl, rfl, rfl⟩, ⟨n1, n2⟩, ⟨h1, h2, h3⟩, ⟨p1, p2, p3⟩, hf⟩ := h
  refine (asWrite h (i := 1) (by decide) a ha hb hl).mono ?_
  rintro e W' ⟨rfl, q', hA, hk⟩
  obtain ⟨vb', hv, hp⟩ := pgV_list (writeA F (ms 1) a bs).2.1 (writeA F (ms 1) a bs).2.2
  refine ⟨⟨_, rfl⟩, ⟨vb', _, _, _, _, ⟨lb, cap, sb, bt, q', _, hA, rfl, rfl, rfl, updS_other _ _ (by decide), updS_same _ _ _, updS_other _ _ (by decide)⟩, ⟨n1, n2.write h.gi (by decide) a hl hb.low⟩, ⟨?_, hv, ?_⟩, ⟨p1, hp, p3⟩, by rw [writeA_n]; exact hf⟩, hk⟩
  · rw [write_pages h.gi (i := 1) (i' := 0) (by decide) (by decide) (by decide) n2 a hl hb.low]; exact h1
  · rw [write_pages h.gi (i := 1) (i' := 2) (by decide) (by decide) (by decide) n2 a hl hb.low]; exact h3
/-- Behind Drop of the first one. -/
def K3a (w W : World) (fb ao bo co : Nat) (vc : List Value) (fr : Int) : Prop := ∃ F ma mb mc, Sp3S w W fb F ao bo co ma mb mc ∧ (∀ p, p < 64 → ma p = none) ∧ pgV F mc = .agg vc.toArray ∧ (F.n : Int) - (mapN mc 64 : Nat) = fr
/-- Behind Drop of the second one. -/
def K3b (w W : World) (fb ao bo co : Nat) (vc : List Value) (fr : Int) : Prop := ∃ F ma mb mc, Sp3S w W fb F ao bo co ma mb mc ∧ (∀ p, p < 64 → ma p = none) ∧ (∀ p, p < 64 → mb p = none) ∧ pgV F mc = .agg vc.toArray ∧ freeN F = fr
theorem k3DropA (h : K3 w W fb ao bo co va vb vc fr) : Calls Try.prog 16 #[.pointer (some ⟨ao, 0, none⟩)] W fun e W' => (∃ v, e = .returned v) ∧ K3a w W' fb ao bo co vc fr ∧ KeepT W W' := by
  obtain ⟨F, ma, mb, mc, ⟨lb, cap, sb, bt, q, ms, h, rfl, rfl, rfl, rfl, rfl, rfl⟩, ⟨n1, n2⟩, ⟨h1, h2, h3⟩, ⟨p1, p2, p3⟩, hf⟩ := h
  refine (asDrop h (i := 0) (by decide)).mono ?_
  rintro e W' ⟨hv, q', hA, hk⟩
  refine ⟨hv, ⟨_, _, _, _, ⟨lb, cap, sb, bt, q', _, hA, rfl, rfl, rfl, updS_same _ _ _, updS_other _ _ (by decide), updS_other _ _ (by decide)⟩, fun p hp => drop_none _ _ hp, ?_, by rw [dropGo_n]; exact hf⟩, hk⟩
  rw [drop_pages h.gi (i := 0) (i' := 2) (by decide) (by decide) (by decide)]; exact h3
theorem k3DropB (h : K3a w W fb ao bo co vc fr) : Calls Try.prog 16 #[.pointer (some ⟨bo, 0, none⟩)] W fun e W' => (∃ v, e = .returned v) ∧ K3b w W' fb ao bo co vc fr ∧ KeepT W W' := by
  obtain ⟨F, ma, mb, mc, ⟨lb, cap, sb, bt, q, ms, h, rfl, rfl, rfl, rfl, rfl, rfl⟩, hn, h3, hf⟩ := h
  refine (asDrop h (i := 1) (by decide)).mono ?_
  rintro e W' ⟨hv, q', hA, hk⟩
  refine ⟨hv, ⟨_, _, _, _, ⟨lb, cap, sb, bt, q', _, hA, rfl, rfl, rfl, updS_other _ _ (by decide), updS_same _ _ _, updS_other _ _ (by decide)⟩, hn, fun p hp => drop_none _ _ hp, ?_, ?_⟩, hk⟩
  · rw [drop_pages h.gi (i := 1) (i' := 2) (by decide) (by decide) (by decide)]; exact h3
  · have hal := hA.gi.alone (i := 2) (by decide) (fun j p hj hne hp => by
      have hj : j = 0 ∨ j = 1 := by omega
      rcases hj with rfl | rfl
      · rw [updS_other _ _ (by decide)]; exact hn p hp
      · rw [updS_same]; exact drop_none _ _ hp)
    rw [freeN_one hal, dropGo_n, updS_other _ _ (by decide)]
    exact hf
theorem k3bC (h : K3b w W fb ao bo co vc fr) : Calls Try.prog 15 #[.pointer (some ⟨co, 0, none⟩)] W fun e W' => e = .returned (.agg vc.toArray) ∧ Below W.heap.size W W' := by
  obtain ⟨F, ma, mb, mc, ⟨lb, cap, sb, bt, q, ms, h, rfl, rfl, rfl, rfl, rfl, rfl⟩, _, _, h3, _⟩ := h
  rw [← h3]
  exact asPages h (i := 2) (by decide)
theorem k3bFree (h : K3b w W fb ao bo co vc fr) : Calls Try.prog 13 #[.pointer (some ⟨fb, 0, none⟩)] W fun e W' => e = .returned (.int .i64 fr) ∧ Below W.heap.size W W' := by
  obtain ⟨F, ma, mb, mc, ⟨lb, cap, sb, bt, q, ms, h, rfl, rfl, rfl, rfl, rfl, rfl⟩, _, _, _, rfl⟩ := h
  exact frFree_any h.f
theorem K3b.below (h : K3b w W fb ao bo co vc fr) (hb : Below W.heap.size W W') : K3b w W' fb ao bo co vc fr := by
  obtain ⟨F, ma, mb, mc, h, e⟩ := h
  exact ⟨F, ma, mb, mc, h.below hb, e⟩
theorem K3b.lo (h : K3b w W fb ao bo co vc fr) : Below w.heap.size w W := by
  obtain ⟨F, ma, mb, mc, h, e⟩ := h
  exact h.lo
/-- Behind Drop of the third one. -/
def K3c (w W : World) (fb ao nn : Nat) : Prop := ∃ F bo co ma mb mc, Sp3S w W fb F ao bo co ma mb mc ∧ F.n = nn ∧ freeN F = nn ∧ list ma = []
theorem k3DropC (h : K3b w W fb ao bo co vc fr) : Calls Try.prog 16 #[.pointer (some ⟨co, 0, none⟩)] W fun e W' => (∃ v, e = .returned v) ∧ ∃ nn, K3c w W' fb ao nn := by
  obtain ⟨F, ma, mb, mc, ⟨lb, cap, sb, bt, q, ms, h, rfl, rfl, rfl, rfl, rfl, rfl⟩, hn, hm, h3, hf⟩ := h
  refine (asDrop h (i := 2) (by decide)).mono ?_
  rintro e W' ⟨hv, q', hA, hk⟩
  refine ⟨hv, _, _, _, _, _, _, _, ⟨lb, cap, sb, bt, q', _, hA, rfl, rfl, rfl, rfl, rfl, rfl⟩, rfl, ?_, ?_⟩
  · have hal := hA.gi.alone (i := 2) (by decide) (fun j p hj hne hp => by
      have hj : j = 0 ∨ j = 1 := by omega
      rcases hj with rfl | rfl
      · rw [updS_other _ _ (by decide)]; exact hn p hp
      · rw [updS_other _ _ (by decide)]; exact hm p hp)
    rw [freeN_one hal, mapN_none 64 (fun p hp => by rw [updS_same]; exact drop_none _ _ hp)]
    simp
  · rw [updS_other _ _ (by decide)]
    exact list_nil hn
theorem K3c.ms {nn : Nat} (h : K3c w W fb ao nn) : ∃ F m, F.n = nn ∧ freeN F = nn ∧ list m = [] ∧ (∃ lb cap bt q, FS W fb lb cap F ao bt q m) ∧ Below w.heap.size w W := by
  obtain ⟨F, bo, co, ma, mb, mc, ⟨lb, cap, sb, bt, q, ms, h, rfl, rfl, rfl, rfl, rfl, rfl⟩, h1, h2, h3⟩ := h
  exact ⟨F, ms 0, h1, h2, h3, ⟨lb, cap, _, _, h.fs (by decide)⟩, h.lo⟩
theorem K3c.below {nn : Nat} (h : K3c w W fb ao nn) (hb : Below W.heap.size W W') : K3c w W' fb ao nn := by
  obtain ⟨F, bo, co, ma, mb, mc, h, e⟩ := h
  exact ⟨F, bo, co, ma, mb, mc, h.below hb, e⟩
theorem k3cFree {nn : Nat} (h : K3c w W fb ao nn) : Calls Try.prog 13 #[.pointer (some ⟨fb, 0, none⟩)] W fun e W' => e = .returned (.int .i64 (nn : Int)) ∧ Below W.heap.size W W' := by
  obtain ⟨F, m, h1, h2, _, ⟨lb, cap, bt, q, hf⟩, _⟩ := h.ms
  rw [← h2]
  exact frFree_any hf.f
theorem k3cLen {nn : Nat} (h : K3c w W fb ao nn) : Calls Try.prog 17 #[.pointer (some ⟨fb, 0, none⟩)] W fun e W' => e = .returned (.int .i64 (nn : Int)) ∧ W = W' := by
  obtain ⟨F, m, h1, h2, _, ⟨lb, cap, bt, q, hf⟩, _⟩ := h.ms
  rw [← h1]
  exact frLen_any hf.f
theorem k3cList {nn : Nat} (h : K3c w W fb ao nn) : Calls Try.prog 18 #[.pointer (some ⟨ao, 0, none⟩)] W fun e W' => ∃ A c, e = .returned (.slice A 0 c) ∧ Below W.heap.size W W' := by
  obtain ⟨F, m, _, _, hl, ⟨lb, cap, bt, q, hf⟩, _⟩ := h.ms
  refine (spList_any hf).mono ?_
  rintro e W' ⟨v, rfl, _, hiff, hb⟩
  rw [hiff.2 hl]
  exact ⟨none, 0, rfl, hb⟩
/-- So many frames are free. -/
def FreeIs (W : World) (fb : Nat) (fr : Int) : Prop := ∃ lb cap F, FrAt W fb lb cap F ∧ freeN F = fr
theorem FreeIs.below {fr : Int} (h : FreeIs W fb fr) (hb : Below W.heap.size W W') : FreeIs W' fb fr := by
  obtain ⟨lb, cap, F, hf, e⟩ := h
  exact ⟨lb, cap, F, hf.below hb, e⟩
theorem freeIs_any {fr : Int} (h : FreeIs W fb fr) : Calls Try.prog 13 #[.pointer (some ⟨fb, 0, none⟩)] W fun e W' => e = .returned (.int .i64 fr) ∧ Below W.heap.size W W' := by
  obtain ⟨lb, cap, F, hf, rfl⟩ := h
  exact frFree_any hf
theorem Sp3S.free {F : Fs} {ma mb mc : M} {fr : Int} (h : Sp3S w W fb F ao bo co ma mb mc) (e : freeN F = fr) : FreeIs W fb fr := by
  obtain ⟨lb, cap, sb, bt, q, ms, h, _⟩ := h
  exact ⟨lb, cap, F, h.f, e⟩
/-- Two clones: all three have the same pages. -/
theorem K3.of (F0 : Fs) (m0' : M) (hg : GI F0 (fun _ => m0') 1) (hn : NS m0') {vl : List Value} (hv : pgV F0 m0' = .agg vl.toArray) (hp : PgL vl) {F1 : Fs} {m1 n1 : M} (h1 : (F1, m1, n1) = clG F0 m0' (list m0') (list m0').length)
    {F2 : Fs} {m2 n2 : M} (h2 : (F2, m2, n2) = clG F1 m1 (list m1) (list m1).length) (h : Sp3S w W fb F2 ao bo co m2 n1 n2) : K3 w W fb ao bo co vl vl vl (freeN F0) ∧ freeN F2 = freeN F0 := by
  have e1 : F1 = (clG F0 m0' (list m0') (list m0').length).1 := by rw [← h1]
  have e2 : m1 = (clG F0 m0' (list m0') (list m0').length).2.1 := by rw [← h1]
  have e3 : n1 = (clG F0 m0' (list m0') (list m0').length).2.2 := by rw [← h1]
  have f1 : F2 = (clG F1 m1 (list m1) (list m1).length).1 := by rw [← h2]
  have f2 : m2 = (clG F1 m1 (list m1) (list m1).length).2.1 := by rw [← h2]
  have f3 : n2 = (clG F1 m1 (list m1) (list m1).length).2.2 := by rw [← h2]
  have hN1 := hn.clone (F := F0)
  rw [← e2, ← e3] at hN1
  have hN2 := hN1.1.clone (F := F1)
  rw [← f2, ← f3] at hN2
  have hr1 := fun p (hp : p < 64) => clone_reads F0 m0' hp
  rw [← e1, ← e2, ← e3] at hr1
  have hr2 := fun p (hp : p < 64) => clone_reads F1 m1 hp
  rw [← f1, ← f2, ← f3] at hr2
  have hb : ∀ k, F2.b k = F1.b k := fun k => by rw [f1, clG_b]
  have hfree : freeN F2 = freeN F0 := by rw [f1, clG_free, e1, clG_free]
  refine ⟨⟨F2, m2, n1, n2, h, ⟨hN2.1, hN1.2⟩, ⟨(pgV_ext fun p hp => (hr2 p hp).1.trans (hr1 p hp).1).trans hv, (pgV_ext fun p hp => (pageP_ext hb p).trans (hr1 p hp).2).trans hv, (pgV_ext fun p hp => (hr2 p hp).2.trans (hr1 p hp).1).trans hv⟩, ⟨hp, hp, hp⟩, ?_⟩, hfree⟩
  rw [freeN_one hg, f1, clG_n, e1, clG_n]
  rw [mapN_ext (m := n2) (m' := m0') 64 (fun p hp => by rw [f3, (clone_some F1 m1 hp).2, e2, (clone_some F0 m0' hp).1])]
end
end Go.Proofs.Ytolejpbdbjkndaa
