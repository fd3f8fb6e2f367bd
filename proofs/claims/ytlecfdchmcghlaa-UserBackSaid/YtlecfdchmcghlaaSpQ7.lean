/-
  A write into one space, seen from another: only pages that are Shared, of the same frame, are turned, and they are the writer's. Condition: none.
-/
import Derived.Test.YtlecfdchmcghlaaSpG
namespace Go.Proofs.Ytlecfdchmcghlaa
section
open Go.RowKit
set_option linter.unusedVariables false

/-- own, whatever it does. -/
theorem own_all {F : Fs} {x : E} {f : Nat} (hF : F.Ok) (hx : x.f = f) (hf : f < F.n) (hr0 : F.r f ≠ 0) (hk : wants F x → ∃ k, freeK F = some k) :
    ∃ k : Nat, ownI F x = k ∧ k < F.n ∧ (ownS F x).n = F.n ∧ (ownS F x).r k ≠ 0 ∧ (ownS F x).b k = F.b f ∧ (k = f ∨ F.r k = 0) ∧ ∀ g, g ≠ k → (ownS F x).b g = F.b g ∧ (g ≠ f → (ownS F x).r g = F.r g) := by
  by_cases hw : wants F x
  · obtain ⟨k, hk0⟩ := hk hw
    have hr1 : 1 < F.r f := by
      have := hw.2
      rw [hx, refsI_nat hf] at this
      omega
    obtain ⟨hkn, hkr⟩ := freeK_some hk0
    have hkf : k ≠ f := fun e => by rw [e] at hkr; omega
    refine ⟨k, ownI_yes hw hk0, hkn, own_n hF hx hf hr1 hk0 hw.1, ?_, ?_, .inr hkr, fun g hg => ⟨?_, fun hgf => ?_⟩⟩
    · rw [own_r hF hx hf hr1 hk0 hw.1, if_neg hkf, if_pos rfl]; decide
    · rw [own_b hF hx hf hr1 hk0 hw.1, if_pos rfl]
    · rw [own_b hF hx hf hr1 hk0 hw.1, if_neg hg]
    · rw [own_r hF hx hf hr1 hk0 hw.1, if_neg hgf, if_neg hg]
  · refine ⟨f, (ownI_not hw).trans hx, hf, ?_, ?_, ?_, .inl rfl, fun g hg => ?_⟩ <;> rw [ownS_not hw]
    · exact hr0
    · exact ⟨rfl, fun _ => rfl⟩
/-- What holds behind j pages of a write. -/
structure WB (F : Fs) (m : M) (a k : Nat) (bs : List Int) (j : Nat) (s : Fs × M) : Prop where
  ok : SpOk s.1 s.2
  there : ∀ p, p < 64 → (s.2 p).isSome = (m p).isSome
  flags : ∀ p x y, p < 64 → m p = some x → s.2 p = some y → y.w = x.w ∧ y.s = x.s
  bytes : ∀ p x y, p < 64 → m p = some x → s.2 p = some y → s.1.b y.f.toNat = if a / 64 ≤ p ∧ p < a / 64 + j then putL (F.b x.f.toNat) (pcK a k (p - a / 64)).off (cutB bs a k (p - a / 64)) else F.b x.f.toNat
theorem WB.start {F : Fs} {m : M} (hok : SpOk F m) (a k : Nat) (bs : List Int) : WB F m a k bs 0 (F, m) :=
  ⟨hok, fun _ _ => rfl, fun p x y _ hx hy => by
    have hy : m p = some y := hy
    rw [hx] at hy
    cases hy
    exact ⟨rfl, rfl⟩, fun p x y _ hx hy => by
    have hy : m p = some y := hy
    rw [hx] at hy
    cases hy
    rw [if_neg (by omega)]⟩
theorem WB.step {F : Fs} {m : M} {a k j : Nat} {bs : List Int} {x : E} (hG : (writeGo F m a k bs j).1.Ok) (h : WB F m a k bs j (writeGo F m a k bs j)) (hpage : (writeGo F m a k bs j).2 (a / 64 + j) = some x) (hx : m (a / 64 + j) = some x) (hp : a / 64 + j < 64)
    (hfree : wants (writeGo F m a k bs j).1 x → ∃ i, freeK (writeGo F m a k bs j).1 = some i) : WB F m a k bs (j + 1) (writeGo F m a k bs (j + 1)) := by
  obtain ⟨f, hxf, hfn, hfr⟩ := h.ok.used _ _ hp hpage
  obtain ⟨i, hoi, hin, hon, hor, hob, hif, hog⟩ := own_all hG hxf hfn hfr hfree
  have hbf : (writeGo F m a k bs j).1.b f = F.b f := by
    have := h.bytes _ x x hp hx hpage
    rw [hxf, Int.toNat_natCast, if_neg (by omega)] at this
    exact this
  rw [writeGo_succ hpage, hoi, Int.toNat_natCast]
  generalize hs : writeGo F m a k bs j = s at *
  have hoe : ownE s.1 x = ⟨(i : Int), x.w, x.s, false, true⟩ := by unfold ownE; rw [hoi]
  rw [hoe]
  -- another page's frame is neither the old one nor the new one
  have hoth : ∀ p y, p < 64 → p ≠ a / 64 + j → s.2 p = some y → ∃ g : Nat, y.f = g ∧ g < s.1.n ∧ s.1.r g ≠ 0 ∧ g ≠ f ∧ g ≠ i := fun p y hp' hne hy => by
    obtain ⟨g, hyg, hgn, hgr⟩ := h.ok.used _ _ hp' hy
    have hgf : g ≠ f := fun e => hne (h.ok.one _ _ _ _ hp' hp hy hpage (by rw [hyg, hxf, e]))
    refine ⟨g, hyg, hgn, hgr, hgf, fun e => ?_⟩
    rcases hif with h1 | h1
    · exact hgf (by rw [e, h1])
    · rw [e] at hgr; exact hgr h1
  have hwb : ∀ g, (writeF (ownS s.1 x) i (pcK a k j).off (cutB bs a k j)).b g = if g = i then putL ((ownS s.1 x).b i) (pcK a k j).off (cutB bs a k j) else (ownS s.1 x).b g := fun g => rfl
  have hwr : ∀ g, (writeF (ownS s.1 x) i (pcK a k j).off (cutB bs a k j)).r g = (ownS s.1 x).r g := fun g => rfl
  refine ⟨⟨fun p y hp' hy => ?_, fun p p' y z hp1 hp2 hy hz e => ?_⟩, fun p hp' => ?_, fun p u y hp' hu hy => ?_, fun p u y hp' hu hy => ?_⟩
  · by_cases hpp : p = a / 64 + j
    · subst hpp
      have hy : upd s.2 (a / 64 + j) _ (a / 64 + j) = some y := hy
      rw [upd_same] at hy
      cases hy
      exact ⟨i, rfl, by show i < (ownS s.1 x).n; rw [hon]; exact hin, by rw [hwr]; exact hor⟩
    · have hy : upd s.2 (a / 64 + j) _ p = some y := hy
      rw [upd_other _ _ hpp] at hy
      obtain ⟨g, h1, h2, h3, h4, h5⟩ := hoth p y hp' hpp hy
      exact ⟨g, h1, by show g < (ownS s.1 x).n; rw [hon]; exact h2, by rw [hwr, (hog g h5).2 h4]; exact h3⟩
  · have hy : upd s.2 (a / 64 + j) (some ⟨(i : Int), x.w, x.s, false, true⟩) p = some y := hy
    have hz : upd s.2 (a / 64 + j) (some ⟨(i : Int), x.w, x.s, false, true⟩) p' = some z := hz
    by_cases hpp : p = a / 64 + j
    · by_cases hpp' : p' = a / 64 + j
      · rw [hpp, hpp']
      · rw [hpp, upd_same] at hy
        rw [upd_other _ _ hpp'] at hz
        cases hy
        obtain ⟨g, h1, _, _, _, h5⟩ := hoth p' z hp2 hpp' hz
        rw [h1] at e
        exact absurd (by have e : (i : Int) = (g : Int) := e; omega) h5
    · by_cases hpp' : p' = a / 64 + j
      · rw [hpp', upd_same] at hz
        rw [upd_other _ _ hpp] at hy
        cases hz
        obtain ⟨g, h1, _, _, _, h5⟩ := hoth p y hp1 hpp hy
        rw [h1] at e
        exact absurd (by have e : (g : Int) = (i : Int) := e; omega) h5
      · rw [upd_other _ _ hpp] at hy
        rw [upd_other _ _ hpp'] at hz
        exact h.ok.one _ _ _ _ hp1 hp2 hy hz e
  · show (upd s.2 (a / 64 + j) _ p).isSome = _
    by_cases hpp : p = a / 64 + j
    · rw [hpp, upd_same, hx]; rfl
    · rw [upd_other _ _ hpp]; exact h.there p hp'
  · have hy : upd s.2 (a / 64 + j) (some ⟨(i : Int), x.w, x.s, false, true⟩) p = some y := hy
    by_cases hpp : p = a / 64 + j
    · rw [hpp, upd_same] at hy
      rw [hpp, hx] at hu
      cases hy
      cases hu
      exact ⟨rfl, rfl⟩
    · rw [upd_other _ _ hpp] at hy
      exact h.flags p u y hp' hu hy
  · have hy : upd s.2 (a / 64 + j) (some ⟨(i : Int), x.w, x.s, false, true⟩) p = some y := hy
    by_cases hpp : p = a / 64 + j
    · rw [hpp, upd_same] at hy
      rw [hpp, hx] at hu
      cases hy
      cases hu
      show (writeF (ownS s.1 x) i (pcK a k j).off (cutB bs a k j)).b i = _
      rw [hwb, if_pos rfl, hob, hbf, if_pos (by omega), hpp, show a / 64 + j - a / 64 = j by omega, hxf, Int.toNat_natCast]
    · rw [upd_other _ _ hpp] at hy
      obtain ⟨g, h1, _, _, h4, h5⟩ := hoth p y hp' hpp hy
      have hb := h.bytes p u y hp' hu hy
      rw [h1, Int.toNat_natCast] at hb
      show (writeF (ownS s.1 x) i (pcK a k j).off (cutB bs a k j)).b y.f.toNat = _
      rw [h1, Int.toNat_natCast, hwb, if_neg h5, (hog g h5).1, hb]
      by_cases hr : a / 64 ≤ p ∧ p < a / 64 + j
      · rw [if_pos hr, if_pos (by omega)]
      · rw [if_neg hr, if_neg (by omega)]
end
end Go.Proofs.Ytlecfdchmcghlaa
namespace Go.Proofs.Ytlecfdchmcghlaa
section
open Go.RowKit
set_option linter.unusedVariables false

theorem own_ok {F : Fs} {x : E} {f : Nat} (hF : F.Ok) (hx : x.f = f) (hf : f < F.n) (hk : wants F x → ∃ k, freeK F = some k) : (ownS F x).Ok := by
  by_cases hw : wants F x
  · obtain ⟨k, hk0⟩ := hk hw
    have hr1 : 1 < F.r f := by
      have := hw.2
      rw [hx, refsI_nat hf] at this
      omega
    rw [own_eqs hF hx hf hr1 hk0 hw.1]
    obtain ⟨hkn, _⟩ := freeK_some hk0
    have := hF.top f
    exact ((hF.setR (k := k) (v := 1) hkn (by decide)).setB k (hF.len f) (hF.low f)).setR (k := f) (v := F.r f - 1) hf (by omega)
  · rw [ownS_not hw]; exact hF
theorem writeF_ok {F : Fs} (hF : F.Ok) (k off : Nat) {bs : List Int} (h : ∀ x ∈ bs, 0 ≤ x ∧ x ≤ 255) : (writeF F k off bs).Ok :=
  hF.setB k (by rw [putL_len, hF.len]) (putL_low bs _ off h (hF.low k))
theorem writeGo_all {F : Fs} {m : M} {a k : Nat} {bs : List Int} (hok : SpOk F m) (hF : F.Ok) (hk : k ≤ 4096) (hO : okK m a true (pcJ a k)) (hneed : (needK F m a (pcJ a k) : Int) ≤ freeN F) (hlow : ∀ x ∈ bs, 0 ≤ x ∧ x ≤ 255) :
    ∀ j, j ≤ pcJ a k → (writeGo F m a k bs j).1.Ok ∧ WL F m a (pcJ a k) j (writeGo F m a k bs j) ∧ WB F m a k bs j (writeGo F m a k bs j)
  | 0, _ => ⟨hF, WL.start F m a _, WB.start hok a k bs⟩
  | j + 1, hj => by
    obtain ⟨h1, h2, h3⟩ := writeGo_all hok hF hk hO hneed hlow j (by omega)
    obtain ⟨x, hx, _⟩ := hO j (by omega)
    have hp : a / 64 + j < 64 := by
      have := hx
      unfold look at this
      split at this
      · omega
      · cases this
    rw [look_in m hp] at hx
    obtain ⟨h4, h5⟩ := h2.step (bs := bs) hok hF (pcJ_le hk) h1 (by omega) hO hx hp hneed
    have hpage := (h2.page j (Nat.le_refl _)).trans hx
    refine ⟨?_, h4, h3.step h1 hpage hx hp h5⟩
    obtain ⟨f, hxf, hfn, _⟩ := h3.ok.used _ _ hp hpage
    rw [writeGo_succ hpage]
    exact writeF_ok (own_ok h1 hxf hfn h5) _ _ (fun y hy => hlow y (List.mem_of_mem_drop (List.mem_of_mem_take hy)))
/-- What was written, and what was there. -/
theorem byte_write {F : Fs} {m : M} {a k : Nat} {bs : List Int} (hok : SpOk F m) (hF : F.Ok) (hk : k ≤ 4096) (hbl : bs.length = k) (hO : okK m a true (pcJ a k)) (hneed : (needK F m a (pcJ a k) : Int) ≤ freeN F) (hlow : ∀ x ∈ bs, 0 ≤ x ∧ x ≤ 255) (n : Nat) :
    byteP (writeGo F m a k bs (pcJ a k)).1 (writeGo F m a k bs (pcJ a k)).2 n = (byteP F m n).map fun o => if a ≤ n ∧ n < a + k then bs.getD (n - a) 0 else o := by
  obtain ⟨_, _, hB⟩ := writeGo_all hok hF hk hO hneed hlow (pcJ a k) (Nat.le_refl _)
  unfold byteP
  by_cases hp : n / 64 < 64
  · rw [look_in _ hp, look_in m hp]
    have ht := hB.there _ hp
    cases hx : m (n / 64) with
    | none =>
      rw [hx] at ht
      cases hy : (writeGo F m a k bs (pcJ a k)).2 (n / 64) with
      | none => rfl
      | some y => rw [hy] at ht; cases ht
    | some x =>
      rw [hx] at ht
      cases hy : (writeGo F m a k bs (pcJ a k)).2 (n / 64) with
      | none => rw [hy] at ht; cases ht
      | some y =>
        have hb := hB.bytes _ x y hp hx hy
        show some ((_ : List Int).getD _ _) = some _
        rw [hb]
        congr 1
        show _ = if a ≤ n ∧ n < a + k then bs.getD (n - a) 0 else (F.b x.f.toNat).getD (n % 64) 0
        have hl := hF.len x.f.toNat
        by_cases hr : a / 64 ≤ n / 64 ∧ n / 64 < a / 64 + pcJ a k
        · rw [if_pos hr]
          obtain ⟨j, hj⟩ : ∃ j, n / 64 = a / 64 + j := ⟨n / 64 - a / 64, by omega⟩
          have hjJ : j < pcJ a k := by omega
          have hfk := (pcJ_iff a k j).2 hjJ
          rw [show n / 64 - a / 64 = j by omega]
          have hcl := cutB_len (a := a) (j := j) hbl hfk
          have ho : (pcK a k j).off = (a + frK a k j) % 64 := rfl
          have hn : (pcK a k j).n = min (k - frK a k j) (64 - (a + frK a k j) % 64) := rfl
          have hfr : frK a k j = if j = 0 then 0 else 64 * j - a % 64 := by
            unfold frK at hfk ⊢
            split
            · rfl
            · rw [if_neg (by assumption)] at hfk
              omega
          rw [List.getD_eq_getElem?_getD, putL_get _ _ _ _ (by rw [hcl, hn, ho, hl]; omega), hcl, hn, ho]
          have hcond : ((a + frK a k j) % 64 ≤ n % 64 ∧ n % 64 < (a + frK a k j) % 64 + min (k - frK a k j) (64 - (a + frK a k j) % 64)) ↔ (a ≤ n ∧ n < a + k) := by
            rw [hfr] at hfk ⊢
            split at hfk <;> split <;> omega
          by_cases hc : a ≤ n ∧ n < a + k
          · rw [if_pos (hcond.2 hc), if_pos hc]
            have hc2 := hcond.2 hc
            unfold cutB
            have hf : (pcK a k j).from_ = frK a k j := rfl
            rw [List.getElem?_take_of_lt (by rw [hn]; omega), List.getElem?_drop, hf, List.getD_eq_getElem?_getD]
            congr 2
            rw [hfr] at hfk hc2 ⊢
            split at hfk <;> split <;> omega
          · rw [if_neg (fun h => hc (hcond.1 h)), if_neg hc, List.getD_eq_getElem?_getD]
        · rw [if_neg hr, if_neg (fun h => hr ?_)]
          have hk0 : 0 < k := by omega
          unfold pcJ
          rw [if_neg (by omega)]
          omega
  · have : look m ((n / 64 : Nat) : Int) = none := by unfold look; rw [if_neg (by omega)]
    rw [this]
    have : look (writeGo F m a k bs (pcJ a k)).2 ((n / 64 : Nat) : Int) = none := by unfold look; rw [if_neg (by omega)]
    rw [this]
    rfl
end
end Go.Proofs.Ytlecfdchmcghlaa
namespace Go.Proofs.Ytlecfdchmcghlaa
section
open Go.RowKit
set_option linter.unusedVariables false

/-- Is this the entry's frame? -/
def ind (o : Option E) (k : Nat) : Nat := match o with
  | some x => if x.f = (k : Int) then 1 else 0
  | none => 0
/-- How many of the first n pages have frame k. -/
def cntF (m : M) (k : Nat) : Nat → Nat
  | 0 => 0
  | n + 1 => cntF m k n + ind (m n) k
theorem cntF_upd (m : M) (p k : Nat) (o : Option E) : ∀ n, cntF (upd m p o) k n + (if p < n then ind (m p) k else 0) = cntF m k n + (if p < n then ind o k else 0)
  | 0 => by simp [cntF]
  | n + 1 => by
    have ih := cntF_upd m p k o n
    rw [cntF, cntF]
    by_cases hp : p = n
    · subst hp
      rw [upd_same, if_pos (by omega), if_pos (by omega)]
      rw [if_neg (by omega), if_neg (by omega)] at ih
      omega
    · rw [upd_other _ _ (fun e => hp e.symm)]
      by_cases hpn : p < n
      · rw [if_pos (by omega), if_pos (by omega)]
        rw [if_pos hpn, if_pos hpn] at ih
        omega
      · rw [if_neg (by omega), if_neg (by omega)]
        rw [if_neg hpn, if_neg hpn] at ih
        omega
theorem cntF_pos {m : M} {k p : Nat} {x : E} (hx : m p = some x) (hf : x.f = (k : Int)) : ∀ n, p < n → 1 ≤ cntF m k n
  | 0, h => by omega
  | n + 1, h => by
    rw [cntF]
    by_cases hp : p = n
    · subst hp
      rw [hx, ind, if_pos hf]
      omega
    · have := cntF_pos hx hf n (by omega)
      omega
theorem cntF_two {m : M} {k p p' : Nat} {x y : E} (hne : p ≠ p') (hx : m p = some x) (hf : x.f = (k : Int)) (hy : m p' = some y) (hg : y.f = (k : Int)) : ∀ n, p < n → p' < n → 2 ≤ cntF m k n
  | 0, h, _ => by omega
  | n + 1, h, h' => by
    rw [cntF]
    by_cases hp : p = n
    · have := cntF_pos hy hg n (by omega)
      rw [← hp, hx, ind, if_pos hf]
      rw [← hp] at this
      omega
    · by_cases hp' : p' = n
      · have := cntF_pos hx hf n (by omega)
        rw [← hp', hy, ind, if_pos hg]
        rw [← hp'] at this
        omega
      · have := cntF_two hne hx hf hy hg n (by omega) (by omega)
        omega
/-- Over the first s spaces. -/
def cntS (ms : Nat → M) (k : Nat) : Nat → Nat
  | 0 => 0
  | s + 1 => cntS ms k s + cntF (ms s) k 64
def updS (ms : Nat → M) (i : Nat) (m : M) : Nat → M := fun j => if j = i then m else ms j
theorem updS_same (ms : Nat → M) (i : Nat) (m : M) : updS ms i m i = m := if_pos rfl
theorem updS_other (ms : Nat → M) {i j : Nat} (m : M) (h : j ≠ i) : updS ms i m j = ms j := if_neg h
theorem cntS_upd (ms : Nat → M) (i k : Nat) (m : M) : ∀ s, cntS (updS ms i m) k s + (if i < s then cntF (ms i) k 64 else 0) = cntS ms k s + (if i < s then cntF m k 64 else 0)
  | 0 => by simp [cntS]
  | s + 1 => by
    have ih := cntS_upd ms i k m s
    rw [cntS, cntS]
    by_cases hi : i = s
    · subst hi
      rw [updS_same, if_pos (by omega), if_pos (by omega)]
      rw [if_neg (by omega), if_neg (by omega)] at ih
      omega
    · rw [updS_other _ _ (fun e => hi e.symm)]
      by_cases his : i < s
      · rw [if_pos (by omega), if_pos (by omega)]
        rw [if_pos his, if_pos his] at ih
        omega
      · rw [if_neg (by omega), if_neg (by omega)]
        rw [if_neg his, if_neg his] at ih
        omega
theorem cntS_one (ms : Nat → M) (k : Nat) {i : Nat} : ∀ s, i < s → cntF (ms i) k 64 ≤ cntS ms k s
  | 0, h => by omega
  | s + 1, h => by
    rw [cntS]
    by_cases hi : i = s
    · subst hi; omega
    · have := cntS_one ms k s (show i < s by omega)
      omega
theorem cntS_two (ms : Nat → M) (k : Nat) {i j : Nat} (hij : i ≠ j) : ∀ s, i < s → j < s → cntF (ms i) k 64 + cntF (ms j) k 64 ≤ cntS ms k s
  | 0, h, _ => by omega
  | s + 1, h, h' => by
    rw [cntS]
    by_cases hi : i = s
    · have := cntS_one ms k s (show j < s by omega)
      rw [← hi] at this ⊢
      omega
    · by_cases hj : j = s
      · have := cntS_one ms k s (show i < s by omega)
        rw [← hj] at this ⊢
        omega
      · have := cntS_two ms k hij s (by omega) (by omega)
        omega
/-- One entry of one space is turned. -/
theorem cnt_set {ms : Nat → M} {s i p : Nat} (hi : i < s) (hp : p < 64) (o : Option E) (k : Nat) :
    cntS (updS ms i (upd (ms i) p o)) k s + ind (ms i p) k = cntS ms k s + ind o k := by
  have h1 := cntS_upd ms i k (upd (ms i) p o) s
  have h2 := cntF_upd (ms i) p k o 64
  rw [if_pos hi, if_pos hi] at h1
  rw [if_pos hp, if_pos hp] at h2
  omega
/-- Frames and the first s spaces. -/
structure GI (F : Fs) (ms : Nat → M) (s : Nat) : Prop where
  fok : F.Ok
  rng : ∀ i p x, i < s → p < 64 → ms i p = some x → ∃ f : Nat, x.f = f ∧ f < F.n
  cnt : ∀ k, F.r k = cntS ms k s
  zero : ∀ k, F.r k = 0 → F.b k = z64
  page : ∀ i i' p p' x y, i < s → i' < s → p < 64 → p' < 64 → ms i p = some x → ms i' p' = some y → x.f = y.f → p = p' ∧ x.w = y.w ∧ x.s = y.s
  eok : ∀ i p x, i < s → p < 64 → ms i p = some x → x.ok = true
  own1 : ∀ i p x, i < s → p < 64 → ms i p = some x → x.w = true → x.s = false → x.c = false → F.r x.f.toNat = 1
theorem GI.used {F : Fs} {ms : Nat → M} {s : Nat} (h : GI F ms s) {i p : Nat} {x : E} (hi : i < s) (hp : p < 64) (hx : ms i p = some x) : ∃ f : Nat, x.f = f ∧ f < F.n ∧ F.r f ≠ 0 := by
  obtain ⟨f, hf, hn⟩ := h.rng i p x hi hp hx
  refine ⟨f, hf, hn, ?_⟩
  have h1 := cntF_pos hx hf 64 hp
  have h2 := cntS_one ms f s hi
  rw [h.cnt]
  omega
theorem GI.spOk {F : Fs} {ms : Nat → M} {s : Nat} (h : GI F ms s) {i : Nat} (hi : i < s) : SpOk F (ms i) :=
  ⟨fun p x hp hx => h.used hi hp hx, fun p p' x y hp hp' hx hy e => (h.page i i p p' x y hi hi hp hp' hx hy e).1⟩
/-- A page gets a new frame. -/
theorem GI.map {F : Fs} {ms : Nat → M} {s : Nat} (h : GI F ms s) {i p j : Nat} (hi : i < s) (hp : p < 64) (hn : ms i p = none) (hj : freeK F = some j) (wr sh : Bool) :
    GI (F.setR j 1) (updS ms i (upd (ms i) p (some ⟨j, wr, sh, false, true⟩))) s := by
  obtain ⟨hjn, hjr⟩ := freeK_some hj
  have hnew : ∀ i' p' y, i' < s → p' < 64 → updS ms i (upd (ms i) p (some ⟨j, wr, sh, false, true⟩)) i' p' = some y → (i' = i ∧ p' = p ∧ y = ⟨j, wr, sh, false, true⟩) ∨ (ms i' p' = some y ∧ y.f ≠ (j : Int)) := fun i' p' y hi' hp' hy => by
    have hold : ms i' p' = some y → y.f ≠ (j : Int) := fun hy e => by
      obtain ⟨f, hf, _, hr⟩ := h.used hi' hp' hy
      rw [hf] at e
      have e : f = j := by omega
      rw [e] at hr
      exact hr hjr
    by_cases hii : i' = i
    · subst hii
      rw [updS_same] at hy
      by_cases hpp : p' = p
      · subst hpp
        rw [upd_same] at hy
        cases hy
        exact .inl ⟨rfl, rfl, rfl⟩
      · rw [upd_other _ _ hpp] at hy
        exact .inr ⟨hy, hold hy⟩
    · rw [updS_other _ _ hii] at hy
      exact .inr ⟨hy, hold hy⟩
  have hr : ∀ k, (F.setR j 1).r k = if k = j then 1 else F.r k := fun k => rfl
  refine ⟨h.fok.setR hjn (by decide), fun i' p' y hi' hp' hy => ?_, fun k => ?_, fun k hk => ?_, fun i1 i2 p1 p2 y z h1 h2 h3 h4 hy hz e => ?_, fun i' p' y hi' hp' hy => ?_, fun i' p' y hi' hp' hy hw hs hc => ?_⟩
  · rcases hnew i' p' y hi' hp' hy with ⟨_, _, rfl⟩ | ⟨hy, _⟩
    · exact ⟨j, rfl, hjn⟩
    · exact h.rng i' p' y hi' hp' hy
  · have hc := cnt_set (ms := ms) hi hp (some ⟨(j : Int), wr, sh, false, true⟩) k
    rw [hn] at hc
    have h0 := h.cnt k
    rw [hr]
    have hind : ind (some (⟨(j : Int), wr, sh, false, true⟩ : E)) k = if k = j then 1 else 0 := by
      show (if (j : Int) = (k : Int) then 1 else 0) = _
      by_cases e : k = j
      · subst e; rw [if_pos rfl, if_pos rfl]
      · rw [if_neg (by omega), if_neg e]
    rw [hind] at hc
    have hz0 : ind none k = 0 := rfl
    rw [hz0] at hc
    by_cases e : k = j
    · rw [if_pos e] at hc ⊢
      rw [e, hjr] at h0
      rw [e] at hc ⊢
      omega
    · rw [if_neg e] at hc ⊢
      omega
  · rw [hr] at hk
    split at hk
    · cases hk
    · exact h.zero k hk
  · rcases hnew i1 p1 y h1 h3 hy with ⟨_, rfl, rfl⟩ | ⟨hy, hne⟩
    · rcases hnew i2 p2 z h2 h4 hz with ⟨_, rfl, rfl⟩ | ⟨hz, hne⟩
      · exact ⟨rfl, rfl, rfl⟩
      · exact absurd e.symm hne
    · rcases hnew i2 p2 z h2 h4 hz with ⟨_, rfl, rfl⟩ | ⟨hz, hne2⟩
      · exact absurd e hne
      · exact h.page i1 i2 p1 p2 y z h1 h2 h3 h4 hy hz e
  · rcases hnew i' p' y hi' hp' hy with ⟨_, _, rfl⟩ | ⟨hy, _⟩
    · have := h.fok.pos
      unfold E.ok
      simp
      omega
    · exact h.eok i' p' y hi' hp' hy
  · rcases hnew i' p' y hi' hp' hy with ⟨_, _, rfl⟩ | ⟨hy, hne⟩
    · show (F.setR j 1).r (j : Int).toNat = 1
      rw [hr, Int.toNat_natCast, if_pos rfl]
    · obtain ⟨f, hf, _, _⟩ := h.used hi' hp' hy
      rw [hr, if_neg (by rw [hf] at hne ⊢; omega)]
      exact h.own1 i' p' y hi' hp' hy hw hs hc
end
end Go.Proofs.Ytlecfdchmcghlaa
namespace Go.Proofs.Ytlecfdchmcghlaa
section
open Go.RowKit
set_option linter.unusedVariables false

theorem at_upd {ms : Nat → M} {i p i' p' : Nat} {o : Option E} {y : E} (h : updS ms i (upd (ms i) p o) i' p' = some y) : (i' = i ∧ p' = p ∧ o = some y) ∨ ((i' ≠ i ∨ p' ≠ p) ∧ ms i' p' = some y) := by
  by_cases hii : i' = i
  · subst hii
    rw [updS_same] at h
    by_cases hpp : p' = p
    · subst hpp
      rw [upd_same] at h
      exact .inl ⟨rfl, rfl, h⟩
    · rw [upd_other _ _ hpp] at h
      exact .inr ⟨.inr hpp, h⟩
  · rw [updS_other _ _ hii] at h
    exact .inr ⟨.inl hii, h⟩
theorem GI.two {F : Fs} {ms : Nat → M} {s : Nat} (h : GI F ms s) {i p i' p' : Nat} {x y : E} {f : Nat} (hi : i < s) (hp : p < 64) (hi' : i' < s) (hp' : p' < 64) (hx : ms i p = some x) (hy : ms i' p' = some y) (hxf : x.f = (f : Int)) (hyf : y.f = (f : Int)) (hne : i' ≠ i ∨ p' ≠ p) : 2 ≤ F.r f := by
  rw [h.cnt]
  by_cases hii : i' = i
  · subst hii
    have h1 := cntF_two (m := ms i') (k := f) (show p ≠ p' from fun e => by rcases hne with h | h; exact h rfl; exact h e.symm) hx hxf hy hyf 64 hp hp'
    have h2 := cntS_one ms f s hi
    omega
  · have h1 := cntF_pos hx hxf 64 hp
    have h2 := cntF_pos hy hyf 64 hp'
    have h3 := cntS_two ms f (fun e => hii e.symm) s hi hi'
    omega
theorem ind_some (x : E) {f : Nat} (hf : x.f = (f : Int)) (k : Nat) : ind (some x) k = if k = f then 1 else 0 := by
  show (if x.f = (k : Int) then 1 else 0) = _
  rw [hf]
  by_cases e : k = f
  · subst e; rw [if_pos rfl, if_pos rfl]
  · rw [if_neg (by omega), if_neg e]
theorem dropF_eq {F : Fs} {f : Nat} (hf : f < F.n) (hr : F.r f ≠ 0) : (∀ k, (dropF F (f : Int)).r k = if k = f then F.r f - 1 else F.r k) ∧ (∀ k, (dropF F (f : Int)).b k = if k = f ∧ F.r f = 1 then z64 else F.b k) ∧ (dropF F (f : Int)).n = F.n := by
  unfold dropF
  rw [Int.toNat_natCast, if_pos ⟨by omega, by omega, hr⟩]
  by_cases h1 : F.r f = 1
  · rw [if_pos h1]
    refine ⟨fun k => ?_, fun k => ?_, rfl⟩
    · show (if k = f then 0 else F.r k) = _
      rw [h1]
    · show (if k = f then z64 else F.b k) = _
      by_cases e : k = f
      · rw [if_pos e, if_pos ⟨e, h1⟩]
      · rw [if_neg e, if_neg (fun h => e h.1)]
  · rw [if_neg h1]
    refine ⟨fun k => rfl, fun k => ?_, rfl⟩
    rw [if_neg (fun h => h1 h.2)]; rfl
theorem dropF_ok {F : Fs} (hF : F.Ok) {f : Nat} (hf : f < F.n) : (dropF F (f : Int)).Ok := by
  unfold dropF
  rw [Int.toNat_natCast]
  split
  · split
    · exact (hF.setR hf (by decide)).setB f rfl z64_low
    · have := hF.top f
      exact hF.setR hf (by omega)
  · exact hF
/-- A page is unmapped. -/
theorem GI.unmap {F : Fs} {ms : Nat → M} {s : Nat} (h : GI F ms s) {i p : Nat} {x : E} (hi : i < s) (hp : p < 64) (hx : ms i p = some x) : GI (dropF F x.f) (updS ms i (upd (ms i) p none)) s := by
  obtain ⟨f, hf, hfn, hfr⟩ := h.used hi hp hx
  rw [hf]
  obtain ⟨hr, hb, hn⟩ := dropF_eq hfn hfr
  have hold : ∀ i' p' y, updS ms i (upd (ms i) p none) i' p' = some y → (i' ≠ i ∨ p' ≠ p) ∧ ms i' p' = some y := fun i' p' y hy => by
    rcases at_upd hy with ⟨_, _, e⟩ | e
    · cases e
    · exact e
  refine ⟨dropF_ok h.fok hfn, fun i' p' y hi' hp' hy => ?_, fun k => ?_, fun k hk => ?_, fun i1 i2 p1 p2 y z h1 h2 h3 h4 hy hz e => h.page i1 i2 p1 p2 y z h1 h2 h3 h4 (hold _ _ _ hy).2 (hold _ _ _ hz).2 e, fun i' p' y hi' hp' hy => h.eok i' p' y hi' hp' (hold _ _ _ hy).2, fun i' p' y hi' hp' hy hw hs hc => ?_⟩
  · obtain ⟨g, h1, h2⟩ := h.rng i' p' y hi' hp' (hold _ _ _ hy).2
    exact ⟨g, h1, by rw [hn]; exact h2⟩
  · have hc := cnt_set (ms := ms) hi hp none k
    rw [hx, ind_some x hf] at hc
    have hz0 : ind none k = 0 := rfl
    rw [hz0] at hc
    have h0 := h.cnt k
    rw [hr]
    by_cases e : k = f
    · rw [if_pos e] at hc ⊢
      rw [← e]
      omega
    · rw [if_neg e] at hc ⊢
      omega
  · rw [hr] at hk
    rw [hb]
    by_cases e : k = f
    · rw [if_pos e] at hk
      rw [if_pos ⟨e, by omega⟩]
    · rw [if_neg e] at hk
      rw [if_neg (fun h => e h.1)]
      exact h.zero k hk
  · obtain ⟨hne, hy⟩ := hold _ _ _ hy
    have h1 := h.own1 i' p' y hi' hp' hy hw hs hc
    obtain ⟨g, hg, _⟩ := h.rng i' p' y hi' hp' hy
    rw [hg, Int.toNat_natCast] at h1 ⊢
    rw [hr]
    by_cases e : g = f
    · have := h.two hi hp hi' hp' hx hy hf (by rw [hg, e]) hne
      rw [e] at h1
      omega
    · rw [if_neg e]; exact h1
/-- Bytes of a frame that is used. -/
theorem GI.bytes {F : Fs} {ms : Nat → M} {s : Nat} (h : GI F ms s) (f off : Nat) {bs : List Int} (hr : F.r f ≠ 0) (hl : ∀ x ∈ bs, 0 ≤ x ∧ x ≤ 255) : GI (writeF F f off bs) ms s :=
  ⟨writeF_ok h.fok f off hl, h.rng, h.cnt, fun k hk => by
    have hk : F.r k = 0 := hk
    show (if k = f then _ else F.b k) = z64
    rw [if_neg (fun e => hr (by rw [← e]; exact hk))]
    exact h.zero k hk, h.page, h.eok, h.own1⟩
/-- A page gets a frame of its own, if it is Cow. -/
theorem GI.own {F : Fs} {ms : Nat → M} {s : Nat} (h : GI F ms s) {i p : Nat} {x : E} (hi : i < s) (hp : p < 64) (hx : ms i p = some x) (hk : wants F x → ∃ k, freeK F = some k) : GI (ownS F x) (updS ms i (upd (ms i) p (some (ownE F x)))) s := by
  obtain ⟨f, hf, hfn, hfr⟩ := h.used hi hp hx
  have hxo := h.eok i p x hi hp hx
  have hpos := h.fok.pos
  by_cases hw : wants F x
  · obtain ⟨j, hj⟩ := hk hw
    obtain ⟨hjn, hjr⟩ := freeK_some hj
    have hr1 : 1 < F.r f := by
      have := hw.2
      rw [hf, refsI_nat hfn] at this
      omega
    have hr := own_r h.fok hf hfn hr1 hj hw.1
    have hb := own_b h.fok hf hfn hr1 hj hw.1
    have hn := own_n h.fok hf hfn hr1 hj hw.1
    have hoe : ownE F x = ⟨(j : Int), x.w, x.s, false, true⟩ := by unfold ownE; rw [ownI_yes hw hj]
    rw [hoe]
    have hjf : j ≠ f := fun e => by rw [e] at hjr; omega
    have hold : ∀ i' p' y, i' < s → p' < 64 → ms i' p' = some y → y.f ≠ (j : Int) := fun i' p' y hi' hp' hy e => by
      obtain ⟨g, hg, _, hgr⟩ := h.used hi' hp' hy
      rw [hg] at e
      have e : g = j := by omega
      rw [e] at hgr
      exact hgr hjr
    refine ⟨own_ok h.fok hf hfn (fun _ => ⟨j, hj⟩), fun i' p' y hi' hp' hy => ?_, fun k => ?_, fun k hk0 => ?_, fun i1 i2 p1 p2 y z h1 h2 h3 h4 hy hz e => ?_, fun i' p' y hi' hp' hy => ?_, fun i' p' y hi' hp' hy hyw hys hyc => ?_⟩
    · rcases at_upd hy with ⟨_, _, e⟩ | ⟨_, hy⟩
      · cases e
        exact ⟨j, rfl, by rw [hn]; exact hjn⟩
      · obtain ⟨g, h1, h2⟩ := h.rng i' p' y hi' hp' hy
        exact ⟨g, h1, by rw [hn]; exact h2⟩
    · have hc := cnt_set (ms := ms) hi hp (some ⟨(j : Int), x.w, x.s, false, true⟩) k
      rw [hx, ind_some x hf, ind_some _ (f := j) rfl] at hc
      have h0 := h.cnt k
      rw [hr]
      by_cases e1 : k = f
      · rw [if_pos e1, if_neg (fun e => hjf (by rw [← e, e1]))] at hc
        rw [if_pos e1, ← e1]
        omega
      · rw [if_neg e1] at hc ⊢
        by_cases e2 : k = j
        · rw [if_pos e2] at hc ⊢
          rw [e2, hjr] at h0
          rw [e2] at hc ⊢
          omega
        · rw [if_neg e2] at hc ⊢
          omega
    · rw [hr] at hk0
      by_cases e1 : k = f
      · rw [if_pos e1] at hk0; omega
      · rw [if_neg e1] at hk0
        by_cases e2 : k = j
        · rw [if_pos e2] at hk0; cases hk0
        · rw [if_neg e2] at hk0
          rw [hb, if_neg e2]
          exact h.zero k hk0
    · rcases at_upd hy with ⟨_, ep, ey⟩ | ⟨_, hy⟩
      · rcases at_upd hz with ⟨_, eq, ez⟩ | ⟨_, hz⟩
        · cases ey; cases ez
          exact ⟨ep.trans eq.symm, rfl, rfl⟩
        · cases ey
          exact absurd e.symm (hold i2 p2 z h2 h4 hz)
      · rcases at_upd hz with ⟨_, eq, ez⟩ | ⟨_, hz⟩
        · cases ez
          exact absurd e (hold i1 p1 y h1 h3 hy)
        · exact h.page i1 i2 p1 p2 y z h1 h2 h3 h4 hy hz e
    · rcases at_upd hy with ⟨_, _, e⟩ | ⟨_, hy⟩
      · cases e
        unfold E.ok
        simp
        omega
      · exact h.eok i' p' y hi' hp' hy
    · rcases at_upd hy with ⟨_, _, e⟩ | ⟨_, hy⟩
      · cases e
        show (ownS F x).r (j : Int).toNat = 1
        rw [Int.toNat_natCast, hr, if_neg hjf, if_pos rfl]
      · have h1 := h.own1 i' p' y hi' hp' hy hyw hys hyc
        have h2 := hold i' p' y hi' hp' hy
        obtain ⟨g, hg, _⟩ := h.rng i' p' y hi' hp' hy
        rw [hg, Int.toNat_natCast] at h1 ⊢
        rw [hg] at h2
        rw [hr, if_neg (fun e => by rw [e] at h1; omega), if_neg (by omega)]
        exact h1
  · rw [ownS_not hw]
    have hoe : ownE F x = ⟨x.f, x.w, x.s, false, true⟩ := by unfold ownE; rw [ownI_not hw]
    rw [hoe]
    refine ⟨h.fok, fun i' p' y hi' hp' hy => ?_, fun k => ?_, h.zero, fun i1 i2 p1 p2 y z h1 h2 h3 h4 hy hz e => ?_, fun i' p' y hi' hp' hy => ?_, fun i' p' y hi' hp' hy hyw hys hyc => ?_⟩
    · rcases at_upd hy with ⟨_, _, e⟩ | ⟨_, hy⟩
      · cases e
        exact ⟨f, hf, hfn⟩
      · exact h.rng i' p' y hi' hp' hy
    · have hc := cnt_set (ms := ms) hi hp (some ⟨x.f, x.w, x.s, false, true⟩) k
      rw [hx, ind_some x hf, ind_some ⟨x.f, x.w, x.s, false, true⟩ (f := f) hf] at hc
      have h0 := h.cnt k
      omega
    · rcases at_upd hy with ⟨ei, ep, ey⟩ | ⟨_, hy⟩
      · rcases at_upd hz with ⟨ei2, eq, ez⟩ | ⟨_, hz⟩
        · cases ey; cases ez
          exact ⟨ep.trans eq.symm, rfl, rfl⟩
        · cases ey
          have := h.page i i2 p p2 x z hi h2 hp h4 hx hz e
          exact ⟨ep.trans this.1, this.2.1, this.2.2⟩
      · rcases at_upd hz with ⟨ei2, eq, ez⟩ | ⟨_, hz⟩
        · cases ez
          have := h.page i1 i p1 p y x h1 hi h3 hp hy hx e
          exact ⟨this.1.trans eq.symm, this.2.1, this.2.2⟩
        · exact h.page i1 i2 p1 p2 y z h1 h2 h3 h4 hy hz e
    · rcases at_upd hy with ⟨_, _, e⟩ | ⟨_, hy⟩
      · cases e
        unfold E.ok
        simp
        omega
      · exact h.eok i' p' y hi' hp' hy
    · rcases at_upd hy with ⟨_, _, e⟩ | ⟨_, hy⟩
      · cases e
        show F.r x.f.toNat = 1
        cases hxc : x.c with
        | false => exact h.own1 i p x hi hp hx hyw hys hxc
        | true =>
          have : ¬ 1 < refsI F x.f := fun e => hw ⟨hxc, e⟩
          rw [hf, refsI_nat hfn] at this
          rw [hf, Int.toNat_natCast]
          omega
      · exact h.own1 i' p' y hi' hp' hy hyw hys hyc
end
end Go.Proofs.Ytlecfdchmcghlaa
namespace Go.Proofs.Ytlecfdchmcghlaa
section
open Go.RowKit
set_option linter.unusedVariables false

theorem updS_updS (ms : Nat → M) (i : Nat) (m m' : M) : updS (updS ms i m) i m' = updS ms i m' := by
  funext j
  unfold updS
  split <;> rfl
theorem updS_self (ms : Nat → M) (i : Nat) : updS ms i (ms i) = ms := by
  funext j
  unfold updS
  split
  · next e => rw [e]
  · rfl
/-- GI where space i is m. -/
theorem GI.at_map {F : Fs} {ms : Nat → M} {s i p j : Nat} {m : M} (h : GI F (updS ms i m) s) (hi : i < s) (hp : p < 64) (hn : m p = none) (hj : freeK F = some j) (wr sh : Bool) : GI (F.setR j 1) (updS ms i (upd m p (some ⟨j, wr, sh, false, true⟩))) s := by
  have h1 := h.map (i := i) (p := p) hi hp (by rw [updS_same]; exact hn) hj wr sh
  rw [updS_updS, updS_same] at h1
  exact h1
theorem GI.at_unmap {F : Fs} {ms : Nat → M} {s i p : Nat} {m : M} {x : E} (h : GI F (updS ms i m) s) (hi : i < s) (hp : p < 64) (hx : m p = some x) : GI (dropF F x.f) (updS ms i (upd m p none)) s := by
  have h1 := h.unmap (i := i) (p := p) hi hp (by rw [updS_same]; exact hx)
  rw [updS_updS, updS_same] at h1
  exact h1
theorem GI.at_own {F : Fs} {ms : Nat → M} {s i p : Nat} {m : M} {x : E} (h : GI F (updS ms i m) s) (hi : i < s) (hp : p < 64) (hx : m p = some x) (hk : wants F x → ∃ k, freeK F = some k) : GI (ownS F x) (updS ms i (upd m p (some (ownE F x)))) s := by
  have h1 := h.own (i := i) (p := p) hi hp (by rw [updS_same]; exact hx) hk
  rw [updS_updS, updS_same] at h1
  exact h1
theorem cntP_none {m : M} {p : Nat} : ∀ {n}, cntP m p n = 0 → ∀ k, k < n → m (p + k) = none
  | 0, _, k, hk => absurd hk (Nat.not_lt_zero _)
  | n + 1, h, k, hk => by
    rw [cntP] at h
    cases hm : m (p + n) with
    | some x => rw [hm] at h; simp at h
    | none =>
      rw [hm] at h
      simp at h
      by_cases hkn : k = n
      · subst hkn; exact hm
      · exact cntP_none h k (by omega)
theorem mapGo_far (F : Fs) (m : M) (p : Nat) (wr sh : Bool) : ∀ k q, (q < p ∨ p + k ≤ q) → (mapGo F m p wr sh k).2 q = m q
  | 0, q, _ => rfl
  | k + 1, q, h => by
    rw [mapGo]
    split
    · show upd _ (p + k) _ q = _
      rw [upd_other _ _ (by omega)]
      exact mapGo_far F m p wr sh k q (by omega)
    · exact mapGo_far F m p wr sh k q (by omega)
theorem GI.mapGo {F : Fs} {ms : Nat → M} {s i p n : Nat} (h : GI F ms s) (hi : i < s) (hp : p + n ≤ 64) (hc : cntP (ms i) p n = 0) (hf : (n : Int) ≤ freeN F) (wr sh : Bool) :
    ∀ k, k ≤ n → GI (mapGo F (ms i) p wr sh k).1 (updS ms i (mapGo F (ms i) p wr sh k).2) s
  | 0, _ => by
    show GI F (updS ms i (ms i)) s
    rw [updS_self]; exact h
  | k + 1, hk => by
    have ih := GI.mapGo h hi hp hc hf wr sh k (by omega)
    have hfr := mapGo_free F (ms i) p wr sh k (by omega)
    obtain ⟨j, hj⟩ := freeK_of (F := (Go.Proofs.Ytlecfdchmcghlaa.mapGo F (ms i) p wr sh k).1) (by omega)
    rw [mapGo_succ hj]
    exact ih.at_map hi (by omega) ((mapGo_far F (ms i) p wr sh k (p + k) (.inr (Nat.le_refl _))).trans (cntP_none hc k (by omega))) hj wr sh
theorem GI.unmapGo {F : Fs} {ms : Nat → M} {s i p n : Nat} (h : GI F ms s) (hi : i < s) (hp : p + n ≤ 64) (hc : cntP (ms i) p n = n) :
    ∀ k, k ≤ n → GI (unmapGo F (ms i) p k).1 (updS ms i (unmapGo F (ms i) p k).2) s
  | 0, _ => by
    show GI F (updS ms i (ms i)) s
    rw [updS_self]; exact h
  | k + 1, hk => by
    have ih := GI.unmapGo h hi hp hc k (by omega)
    obtain ⟨x, hx⟩ := cntP_all hc k (by omega)
    have hx2 : (Go.Proofs.Ytlecfdchmcghlaa.unmapGo F (ms i) p k).2 (p + k) = some x := (unmapGo_far F (ms i) p k (p + k) (.inr (Nat.le_refl _))).trans hx
    rw [unmapGo_succ hx2]
    exact ih.at_unmap hi (by omega) hx2
theorem GI.writeGo {F : Fs} {ms : Nat → M} {s i a k : Nat} {bs : List Int} (h : GI F ms s) (hi : i < s) (hk : k ≤ 4096) (hO : okK (ms i) a true (pcJ a k)) (hneed : (needK F (ms i) a (pcJ a k) : Int) ≤ freeN F) (hlow : ∀ x ∈ bs, 0 ≤ x ∧ x ≤ 255) :
    ∀ j, j ≤ pcJ a k → GI (writeGo F (ms i) a k bs j).1 (updS ms i (writeGo F (ms i) a k bs j).2) s
  | 0, _ => by
    show GI F (updS ms i (ms i)) s
    rw [updS_self]; exact h
  | j + 1, hj => by
    have ih := GI.writeGo h hi hk hO hneed hlow j (by omega)
    obtain ⟨h1, h2, h3⟩ := writeGo_all (bs := bs) (h.spOk hi) h.fok hk hO hneed hlow j (by omega)
    obtain ⟨x, hx, _⟩ := hO j (by omega)
    have hp : a / 64 + j < 64 := by
      have := hx
      unfold look at this
      split at this
      · omega
      · cases this
    rw [look_in _ hp] at hx
    obtain ⟨_, h5⟩ := h2.step (bs := bs) (h.spOk hi) h.fok (pcJ_le hk) h1 (by omega) hO hx hp hneed
    have hpage := (h2.page j (Nat.le_refl _)).trans hx
    obtain ⟨f, hxf, hfn, hfr⟩ := h3.ok.used _ _ hp hpage
    obtain ⟨g, hg, _, _, hgr, _⟩ := own_all h1 hxf hfn hfr h5
    rw [writeGo_succ hpage, hg, Int.toNat_natCast]
    exact (ih.at_own hi hp hpage h5).bytes g _ hgr (fun y hy => hlow y (List.mem_of_mem_drop (List.mem_of_mem_take hy)))
/-- One space more, without pages. -/
theorem GI.more {F : Fs} {ms : Nat → M} {s : Nat} (h : GI F ms s) : GI F (updS ms s m0) (s + 1) := by
  have hlt : ∀ i p x, i < s + 1 → updS ms s m0 i p = some x → i < s ∧ ms i p = some x := fun i p x hi hx => by
    by_cases e : i = s
    · subst e
      rw [updS_same] at hx
      cases hx
    · rw [updS_other _ _ e] at hx
      exact ⟨by omega, hx⟩
  have hc0 : ∀ k n, cntF m0 k n = 0 := fun k n => by
    induction n with
    | zero => rfl
    | succ n ih => rw [cntF, ih]; rfl
  refine ⟨h.fok, fun i p x hi hp hx => ?_, fun k => ?_, h.zero, fun i i' p p' x y h1 h2 h3 h4 hx hy e => ?_, fun i p x hi hp hx => ?_, fun i p x hi hp hx => ?_⟩
  · obtain ⟨h1, h2⟩ := hlt i p x hi hx
    exact h.rng i p x h1 hp h2
  · have hu := cntS_upd ms s k m0 s
    rw [if_neg (Nat.lt_irrefl _), if_neg (Nat.lt_irrefl _)] at hu
    rw [cntS, updS_same, hc0]
    have := h.cnt k
    omega
  · obtain ⟨g1, g2⟩ := hlt i p x h1 hx
    obtain ⟨g3, g4⟩ := hlt i' p' y h2 hy
    exact h.page i i' p p' x y g1 g3 h3 h4 g2 g4 e
  · obtain ⟨h1, h2⟩ := hlt i p x hi hx
    exact h.eok i p x h1 hp h2
  · obtain ⟨h1, h2⟩ := hlt i p x hi hx
    exact h.own1 i p x h1 hp h2
end
end Go.Proofs.Ytlecfdchmcghlaa
namespace Go.Proofs.Ytlecfdchmcghlaa
section
open Go.RowKit
set_option linter.unusedVariables false

theorem shareF_eq {F : Fs} {f : Nat} (hf : f < F.n) (hr : F.r f ≠ 0) : shareF F (f : Int) = F.setR f (F.r f + 1) := by
  unfold shareF
  rw [Int.toNat_natCast, if_pos ⟨by omega, by omega, hr⟩]
/-- A page becomes a child's, too. -/
theorem GI.share {F : Fs} {ms : Nat → M} {s : Nat} (h : GI F ms s) {i n p : Nat} {x : E} (hi : i < s) (hn : n < s) (hin : n ≠ i) (hp : p < 64) (hx : ms i p = some x) (hz : ms n p = none) (ht : F.r x.f.toNat < 1000000) :
    GI (shareF F x.f) (updS (updS ms i (upd (ms i) p (some (cowE x)))) n (upd (ms n) p (some (cowE x)))) s := by
  obtain ⟨f, hf, hfn, hfr⟩ := h.used hi hp hx
  have hxo := h.eok i p x hi hp hx
  rw [hf, Int.toNat_natCast] at ht
  rw [hf, shareF_eq hfn hfr]
  have hcf : (cowE x).f = (f : Int) := hf
  have hold : ∀ i' p' y, updS (updS ms i (upd (ms i) p (some (cowE x)))) n (upd (ms n) p (some (cowE x))) i' p' = some y → (p' = p ∧ (i' = i ∨ i' = n) ∧ y = cowE x) ∨ ((p' ≠ p ∨ (i' ≠ i ∧ i' ≠ n)) ∧ ms i' p' = some y) := fun i' p' y hy => by
    by_cases h1 : i' = n
    · subst h1
      rw [updS_same] at hy
      by_cases hpp : p' = p
      · subst hpp
        rw [upd_same] at hy
        cases hy
        exact .inl ⟨rfl, .inr rfl, rfl⟩
      · rw [upd_other _ _ hpp] at hy
        exact .inr ⟨.inl hpp, hy⟩
    · rw [updS_other _ _ h1] at hy
      rcases at_upd hy with ⟨e1, e2, e3⟩ | ⟨e1, e2⟩
      · cases e3
        exact .inl ⟨e2, .inl e1, rfl⟩
      · refine .inr ⟨?_, e2⟩
        rcases e1 with e1 | e1
        · exact .inr ⟨e1, h1⟩
        · exact .inl e1
  have hr : ∀ k, (F.setR f (F.r f + 1)).r k = if k = f then F.r f + 1 else F.r k := fun k => rfl
  refine ⟨h.fok.setR hfn (by omega), fun i' p' y hi' hp' hy => ?_, fun k => ?_, fun k hk => ?_, fun i1 i2 p1 p2 y z h1 h2 h3 h4 hy hz e => ?_, fun i' p' y hi' hp' hy => ?_, fun i' p' y hi' hp' hy hw hs hc => ?_⟩
  · rcases hold i' p' y hy with ⟨_, _, rfl⟩ | ⟨_, hy⟩
    · exact ⟨f, hcf, hfn⟩
    · exact h.rng i' p' y hi' hp' hy
  · have hc1 := cnt_set (ms := ms) hi hp (some (cowE x)) k
    have hc2 := cnt_set (ms := updS ms i (upd (ms i) p (some (cowE x)))) hn hp (some (cowE x)) k
    rw [hx, ind_some x hf, ind_some (cowE x) hcf] at hc1
    rw [updS_other _ _ hin, hz, ind_some (cowE x) hcf] at hc2
    have hz0 : ind none k = 0 := rfl
    rw [hz0] at hc2
    have h0 := h.cnt k
    rw [hr]
    by_cases e : k = f
    · rw [if_pos e] at hc1 hc2 ⊢
      rw [← e]
      omega
    · rw [if_neg e] at hc1 hc2 ⊢
      omega
  · rw [hr] at hk
    split at hk
    · cases hk
    · exact h.zero k hk
  · rcases hold i1 p1 y hy with ⟨ep1, _, rfl⟩ | ⟨_, hy⟩
    · rcases hold i2 p2 z hz with ⟨ep2, _, rfl⟩ | ⟨_, hz⟩
      · exact ⟨ep1.trans ep2.symm, rfl, rfl⟩
      · have := h.page i i2 p p2 x z hi h2 hp h4 hx hz e
        exact ⟨ep1.trans this.1, this.2.1, this.2.2⟩
    · rcases hold i2 p2 z hz with ⟨ep2, _, rfl⟩ | ⟨_, hz⟩
      · have := h.page i1 i p1 p y x h1 hi h3 hp hy hx e
        exact ⟨this.1.trans ep2.symm, this.2.1, this.2.2⟩
      · exact h.page i1 i2 p1 p2 y z h1 h2 h3 h4 hy hz e
  · rcases hold i' p' y hy with ⟨_, _, rfl⟩ | ⟨_, hy⟩
    · exact cowE_ok hxo
    · exact h.eok i' p' y hi' hp' hy
  · rcases hold i' p' y hy with ⟨_, _, rfl⟩ | ⟨hne, hy⟩
    · have hw : x.w = true := hw
      have hs : x.s = false := hs
      have hc : (x.c || (x.w && !x.s)) = false := hc
      rw [hw, hs] at hc
      simp at hc
    · have h1 := h.own1 i' p' y hi' hp' hy hw hs hc
      obtain ⟨g, hg, _⟩ := h.rng i' p' y hi' hp' hy
      rw [hg, Int.toNat_natCast] at h1 ⊢
      rw [hr]
      by_cases e : g = f
      · have := h.two hi hp hi' hp' hx hy hf (by rw [hg, e]) (by rcases hne with h | h; exact .inr h; exact .inl h.1)
        rw [e] at h1
        omega
      · rw [if_neg e]; exact h1
/-- Pages of a list rise. -/
theorem listN_rise (m : M) : ∀ k p, (listN m p k).Pairwise (fun a b => a.1 < b.1)
  | 0, p => by rw [listN]; exact List.Pairwise.nil
  | k + 1, p => by
    rw [listN, List.pairwise_append]
    refine ⟨?_, listN_rise m k (p + 1), fun a ha b hb => ?_⟩
    · cases m p with
      | none => exact List.Pairwise.nil
      | some x => exact List.pairwise_singleton _ _
    · have := mem_listN6 m k (p + 1) b hb
      cases hm : m p with
      | none => rw [hm] at ha; cases ha
      | some x =>
        rw [hm] at ha
        simp only [List.mem_singleton] at ha
        subst ha
        show p < b.1
        omega
theorem list_apart {m : M} {i j : Nat} {y z : Nat × E} (hy : (list m)[i]? = some y) (hz : (list m)[j]? = some z) (hij : i < j) : y.1 < z.1 := by
  have h := listN_rise m 64 0
  rw [List.pairwise_iff_getElem] at h
  obtain ⟨h1, rfl⟩ := List.getElem?_eq_some_iff.1 hy
  obtain ⟨h2, rfl⟩ := List.getElem?_eq_some_iff.1 hz
  exact h i j h1 h2 hij
/-- What Clone has done to pages behind k of them. -/
theorem clG_far (F : Fs) (m : M) (p : Nat) : ∀ k, (∀ j y, j < k → (list m)[j]? = some y → y.1 ≠ p) → (clG F m (list m) k).2.1 p = m p ∧ (clG F m (list m) k).2.2 p = none
  | 0, _ => ⟨rfl, rfl⟩
  | k + 1, h => by
    have ih := clG_far F m p k (fun j y hj hy => h j y (by omega) hy)
    rw [clG]
    split
    · next y hy =>
      have hne := h k y (by omega) hy
      refine ⟨?_, ?_⟩
      · show upd _ y.1 _ p = _
        rw [upd_other _ _ (fun e => hne e.symm)]; exact ih.1
      · show upd _ y.1 _ p = _
        rw [upd_other _ _ (fun e => hne e.symm)]; exact ih.2
    · exact ih
theorem updS_comm (ms : Nat → M) {i n : Nat} (hin : n ≠ i) (m m' : M) : updS (updS ms i m) n m' = updS (updS ms n m') i m := by
  funext j
  unfold updS
  by_cases h1 : j = n
  · by_cases h2 : j = i
    · exact absurd (h1.symm.trans h2) hin
    · rw [if_pos h1, if_neg h2, if_pos h1]
  · rw [if_neg h1]
    by_cases h2 : j = i
    · rw [if_pos h2, if_pos h2]
    · rw [if_neg h2, if_neg h2, if_neg h1]
theorem upd4 (ms : Nat → M) {i n : Nat} (hin : n ≠ i) (A B A' B' : M) : updS (updS (updS (updS ms i A) n B) i A') n B' = updS (updS ms i A') n B' := by
  funext j
  unfold updS
  repeat' split
  all_goals first
    | rfl
    | (exfalso; omega)
/-- A child is made: it is space s. -/
theorem GI.clone {F : Fs} {ms : Nat → M} {s i : Nat} (h : GI F ms s) (hi : i < s) (ht : ∀ k, F.r k + 64 < 1000000) :
    ∀ k, k ≤ (list (ms i)).length → GI (clG F (ms i) (list (ms i)) k).1 (updS (updS ms i (clG F (ms i) (list (ms i)) k).2.1) s (clG F (ms i) (list (ms i)) k).2.2) (s + 1)
  | 0, _ => by
    show GI F (updS (updS ms i (ms i)) s m0) (s + 1)
    rw [updS_self]; exact h.more
  | k + 1, hk => by
    have ih := GI.clone h hi ht k (by omega)
    have hll : (list (ms i)).length ≤ 64 := listN_len (ms i) 64 0
    obtain ⟨y, hy⟩ : ∃ y, (list (ms i))[k]? = some y := ⟨_, List.getElem?_eq_getElem (by omega)⟩
    obtain ⟨hp, hx⟩ := list_get hy
    have hfar := clG_far F (ms i) y.1 k (fun j z hj hz e => by have := list_apart hz hy hj; omega)
    have hle := clG_le F (ms i) (list (ms i)) y.2.f.toNat k
    have htt := ht y.2.f.toNat
    have h1 := ih.share (i := i) (n := s) (p := y.1) (x := y.2) (by omega) (by omega) (by omega) hp
      (by rw [updS_other _ _ (by omega), updS_same]; exact hfar.1.trans hx) (by rw [updS_same]; exact hfar.2) (by omega)
    rw [clG_succ hy]
    have e1 : (updS (updS ms i (clG F (ms i) (list (ms i)) k).2.1) s (clG F (ms i) (list (ms i)) k).2.2) i = (clG F (ms i) (list (ms i)) k).2.1 := by rw [updS_other _ _ (by omega), updS_same]
    have e2 : (updS (updS ms i (clG F (ms i) (list (ms i)) k).2.1) s (clG F (ms i) (list (ms i)) k).2.2) s = (clG F (ms i) (list (ms i)) k).2.2 := updS_same _ _ _
    rw [e1, e2, upd4 _ (by omega)] at h1
    exact h1
theorem mapGo_b (F : Fs) (m : M) (p : Nat) (wr sh : Bool) : ∀ k, (mapGo F m p wr sh k).1.b = F.b
  | 0 => rfl
  | k + 1 => by
    rw [mapGo]
    split
    · exact mapGo_b F m p wr sh k
    · exact mapGo_b F m p wr sh k
end
end Go.Proofs.Ytlecfdchmcghlaa
namespace Go.Proofs.Ytlecfdchmcghlaa
section
open Go.RowKit
set_option linter.unusedVariables false

/-- What another space sees behind j pages. -/
structure WO (F : Fs) (m m' : M) (a j : Nat) (s : Fs × M) : Prop where
  same : ∀ p x y, p < 64 → m p = some x → m' p = some y → x.s = true → x.f = y.f → a / 64 ≤ p → p < a / 64 + j → ∃ z, s.2 p = some z ∧ z.f = y.f
  else_ : ∀ p y, p < 64 → m' p = some y → (∀ x, m p = some x → x.s = true → x.f = y.f → a / 64 ≤ p → p < a / 64 + j → False) → s.1.b y.f.toNat = F.b y.f.toNat
theorem write_other {F : Fs} {ms : Nat → M} {s i i' a k : Nat} {bs : List Int} (h : GI F ms s) (hi : i < s) (hi' : i' < s) (hne : i' ≠ i) (hk : k ≤ 4096) (hO : okK (ms i) a true (pcJ a k)) (hneed : (needK F (ms i) a (pcJ a k) : Int) ≤ freeN F) (hlow : ∀ x ∈ bs, 0 ≤ x ∧ x ≤ 255) :
    ∀ j, j ≤ pcJ a k → WO F (ms i) (ms i') a j (writeGo F (ms i) a k bs j)
  | 0, _ => ⟨fun p x y _ _ _ _ _ h1 h2 => by omega, fun _ _ _ _ _ => rfl⟩
  | j + 1, hj => by
    have ih := write_other (bs := bs) h hi hi' hne hk hO hneed hlow j (by omega)
    have hG := h.writeGo (bs := bs) hi hk hO hneed hlow j (by omega)
    obtain ⟨h1, h2, h3⟩ := writeGo_all (bs := bs) (h.spOk hi) h.fok hk hO hneed hlow j (by omega)
    obtain ⟨x, hx, hxw⟩ := hO j (by omega)
    have hxw := hxw rfl
    have hp : a / 64 + j < 64 := by
      have := hx
      unfold look at this
      split at this
      · omega
      · cases this
    rw [look_in _ hp] at hx
    obtain ⟨_, h5⟩ := h2.step (bs := bs) (h.spOk hi) h.fok (pcJ_le hk) h1 (by omega) hO hx hp hneed
    have hpage := (h2.page j (Nat.le_refl _)).trans hx
    obtain ⟨f, hxf, hfn, hfr⟩ := h3.ok.used _ _ hp hpage
    obtain ⟨g, hg, _, _, _, _, hgf, hgo⟩ := own_all h1 hxf hfn hfr h5
    rw [writeGo_succ hpage, hg, Int.toNat_natCast]
    generalize hs : Go.Proofs.Ytlecfdchmcghlaa.writeGo F (ms i) a k bs j = t at *
    have hup : ∀ p y, ms i' p = some y → updS ms i t.2 i' p = some y := fun p y hy => by rw [updS_other _ _ hne]; exact hy
    have hxo := h.eok i _ x hi hp hx
    -- where the writer's page is Shared, it keeps its frame
    have hsh : x.s = true → ownI t.1 x = x.f := fun e => ownI_not (fun hw => by
      have hc := hw.1
      unfold E.ok at hxo
      rw [e, hc] at hxo
      simp at hxo)
    refine ⟨fun p u y hp' hu hy hus huf hl hr => ?_, fun p y hp' hy hno => ?_⟩
    · show ∃ z, upd t.2 (a / 64 + j) _ p = some z ∧ _
      by_cases hpp : p = a / 64 + j
      · subst hpp
        rw [hx] at hu
        cases hu
        rw [upd_same]
        exact ⟨_, rfl, (hsh hus).trans huf⟩
      · rw [upd_other _ _ hpp]
        exact ih.same p u y hp' hu hy hus huf hl (by omega)
    · obtain ⟨e, hye, hen, her⟩ := hG.used (i := i') hi' hp' (hup p y hy)
      have hold : t.1.b e = F.b e := by
        have := ih.else_ p y hp' hy (fun u h1 h2 h3 h4 h5 => hno u h1 h2 h3 h4 (by omega))
        rwa [hye, Int.toNat_natCast] at this
      show (if y.f.toNat = g then _ else (ownS t.1 x).b y.f.toNat) = F.b y.f.toNat
      rw [hye, Int.toNat_natCast]
      by_cases heg : e = g
      · exfalso
        have hef : e = f := by
          rcases hgf with e1 | e1
          · exact heg.trans e1
          · rw [← heg] at e1; exact absurd e1 her
        have hsame : updS ms i t.2 i (a / 64 + j) = some x := by rw [updS_same]; exact hpage
        obtain ⟨hpp, hyw, hys⟩ := hG.page i i' _ p x y hi hi' hp hp' hsame (hup p y hy) (by rw [hxf, hye, hef])
        subst hpp
        cases hss : x.s with
        | true => exact hno x hx hss (by rw [hxf, hye, hef]) (by omega) (by omega)
        | false =>
          have h2' := hG.two hi hp hi' hp' hsame (hup _ y hy) hxf (by rw [hye, hef]) (.inl hne)
          cases hcc : x.c with
          | false =>
            have := hG.own1 i _ x hi hp hsame hxw hss hcc
            rw [hxf, Int.toNat_natCast] at this
            omega
          | true =>
            have hw : wants t.1 x := ⟨hcc, by rw [hxf, refsI_nat hfn]; omega⟩
            obtain ⟨q, hq⟩ := h5 hw
            have hgq : (g : Int) = (q : Int) := hg.symm.trans (ownI_yes hw hq)
            have hgq : g = q := by omega
            have := (freeK_some hq).2
            rw [← hgq, ← heg] at this
            exact her this
      · rw [if_neg heg, (hgo e heg).1, hold]
end
end Go.Proofs.Ytlecfdchmcghlaa
