/-
  A table of package pages and its reference's list, side by side in memory: what each call leaves. No condition.
-/
import Derived.Test.YtgdimjcpdndklaaRef6
namespace Go.Proofs.Ytgdimjcpdndklaa
open Go.RowKit
set_option linter.unusedVariables false
set_option linter.unusedSimpArgs false

/-- What is neither a table nor a part stays. -/
def Kp (W W' : World) : Prop := W.heap.size ≤ W'.heap.size ∧ ∀ g t cs, t ≠ 49 → t ≠ 70 → t ≠ 52 → Blk W g t cs → Blk W' g t cs
theorem Kp.refl (W : World) : Kp W W := ⟨Nat.le_refl _, fun _ _ _ _ _ _ h => h⟩
theorem Kp.trans {a b c : World} (h : Kp a b) (k : Kp b c) : Kp a c := ⟨Nat.le_trans h.1 k.1, fun g t cs h1 h2 h3 hb => k.2 g t cs h1 h2 h3 (h.2 g t cs h1 h2 h3 hb)⟩
theorem Kp.below {W W' : World} (h : Below W.heap.size W W') : Kp W W' := ⟨h.size, fun g t cs _ _ _ hb => hb.below h hb.lt⟩
theorem Kp.but {W W' : World} {S : Nat → Prop} (h : But S W W') (hS : ∀ k, S k → ∃ t cs, Blk W k t cs ∧ (t = 49 ∨ t = 70 ∨ t = 52)) : Kp W W' :=
  ⟨h.size, fun g t cs h1 h2 h3 hb => hb.but h (fun hs => by
    obtain ⟨t', cs', hb', ht⟩ := hS g hs
    have : t = t' := Classical.byContradiction fun hne => (hb.ne_ hb' hne) rfl
    subst this
    rcases ht with e | e | e
    · exact h1 e
    · exact h2 e
    · exact h3 e)⟩
theorem own_types {w : World} {bt : Nat} {q : Nat → Option Nat} {m : M} (h : Tab w bt q m) : ∀ k, Own bt q k → ∃ t cs, Blk w k t cs ∧ (t = 49 ∨ t = 70 ∨ t = 52) := by
  intro k hk
  rcases hk with rfl | ⟨i, hi, hq⟩
  · exact ⟨_, _, h.top, .inl rfl⟩
  · exact ⟨_, _, h.part i k hi hq, .inr (.inl rfl)⟩
theorem rt_types {w : World} {base rt : Nat} {l : List (Nat × E)} (h : RT w base rt l) : ∀ k, k = rt → ∃ t cs, Blk w k t cs ∧ (t = 49 ∨ t = 70 ∨ t = 52) := by
  rintro k rfl
  obtain ⟨v, h1, _⟩ := h
  exact ⟨_, _, h1, .inr (.inr rfl)⟩
theorem own_not_rt {w : World} {base rt bt : Nat} {q : Nat → Option Nat} {m : M} {l : List (Nat × E)} (h : Tab w bt q m) (hr : RT w base rt l) : ∀ k, Own bt q k → ¬ k = rt := by
  rintro k hk rfl
  obtain ⟨v, h1, _⟩ := hr
  obtain ⟨t, cs, hb, ht, _⟩ := own_part h k hk
  exact (hb.ne_ h1 ht) rfl

/-- The table m at bt, the reference's list l at rt; both new since w; nothing that lay in w has turned. -/
def St (w : World) (rt bt : Nat) (m : M) (l : List (Nat × E)) (W : World) : Prop :=
  ∃ q, Tab W bt q m ∧ (∀ k, Own bt q k → w.heap.size ≤ k) ∧ RT W w.heap.size rt l ∧ Below w.heap.size w W
def St2 (w : World) (rt bt bo : Nat) (m mo : M) (l : List (Nat × E)) (W : World) : Prop :=
  ∃ q qo, Tab W bt q m ∧ (∀ k, Own bt q k → w.heap.size ≤ k) ∧ RT W w.heap.size rt l ∧ Below w.heap.size w W ∧ Tab W bo qo mo ∧ ∀ k, Own bo qo k → w.heap.size ≤ k ∧ ¬ Own bt q k

section
variable {w W W' : World} {rt bt bo : Nat} {m mo : M} {l : List (Nat × E)}
theorem St.wBelow (h : St w rt bt m l W) : Below w.heap.size w W := h.elim fun _ x => x.2.2.2
theorem St.size (h : St w rt bt m l W) : w.heap.size ≤ W.heap.size := h.wBelow.size
theorem St.below (h : St w rt bt m l W) (hb : Below W.heap.size W W') : St w rt bt m l W' := by
  have hs := h.size
  obtain ⟨q, h1, h2, h3, h4⟩ := h
  exact ⟨q, h1.below hb (Nat.le_refl _), h2, h3.below hb, h4.trans (hb.mono hs)⟩
theorem St2.st (h : St2 w rt bt bo m mo l W) : St w rt bt m l W := by
  obtain ⟨q, qo, h1, h2, h3, h4, _⟩ := h
  exact ⟨q, h1, h2, h3, h4⟩
theorem st_mut {q : Nat → Option Nat} {m' : M} (ht : Tab W bt q m) (ho : ∀ k, Own bt q k → w.heap.size ≤ k) (hr : RT W w.heap.size rt l) (hb : Below w.heap.size w W) (h : Mut W bt q m' W') : St w rt bt m' l W' ∧ Kp W W' := by
  obtain ⟨q', h1, h2, h3⟩ := h
  have hs := hb.size
  exact ⟨⟨q', h1, fun k hk => by rcases h3 k hk with h | h; exact ho k h; omega, hr.but h2 (own_part ht), hb.trans (h2.below ho hs)⟩, Kp.but h2 (own_types ht)⟩
theorem st_ref {l' : List (Nat × E)} (h : St w rt bt m l W) (hr : RT W' w.heap.size rt l') (hb : But (fun k => k = rt) W W') : St w rt bt m l' W' ∧ Kp W W' := by
  have hs := h.size
  obtain ⟨q, h1, h2, h3, h4⟩ := h
  have hrt : w.heap.size ≤ rt := by obtain ⟨v, _, _, h5, _⟩ := h3; exact h5
  exact ⟨⟨q, tab_but h1 hb (own_not_rt h1 h3), h2, hr, h4.trans (hb.below (fun k hk => by subst hk; exact hrt) hs)⟩, Kp.but hb (rt_types h3)⟩
theorem st2_mut {m' : M} (h : St2 w rt bt bo m mo l W) {q qo : Nat → Option Nat} (h1 : Tab W bt q m) (h2 : ∀ k, Own bt q k → w.heap.size ≤ k) (h3 : RT W w.heap.size rt l) (h4 : Below w.heap.size w W) (h5 : Tab W bo qo mo) (h6 : ∀ k, Own bo qo k → w.heap.size ≤ k ∧ ¬ Own bt q k)
    (hm : Mut W bo qo m' W') : St2 w rt bt bo m m' l W' ∧ Kp W W' := by
  obtain ⟨q', g1, g2, g3⟩ := hm
  have hs := h4.size
  refine ⟨⟨q, q', tab_but h1 g2 (fun k hk ho => (h6 k ho).2 hk), h2, h3.but g2 (own_part h5), h4.trans (g2.below (fun k hk => (h6 k hk).1) hs), g1, fun k hk => ?_⟩, Kp.but g2 (own_types h5)⟩
  rcases g3 k hk with h | h
  · exact h6 k h
  · exact ⟨by omega, fun ho => by have := h1.own_lt ho; omega⟩

theorem st_set (h : St w rt bt m l W) (x : E) (p : Int) : Calls Try.prog 16 #[.pointer (some ⟨bt, 0, none⟩), .int .i64 p, x.val] W
    fun e w' => e = .returned (.int .i64 (if may p x then 0 else 50)) ∧ St w rt bt (setM m p x) l w' ∧ Kp W w' := by
  obtain ⟨q, h1, h2, h3, h4⟩ := h
  exact (set_any h1 x p).mono fun e w' ⟨he, hm⟩ => ⟨he, st_mut h1 h2 h3 h4 hm⟩
theorem st_clear (h : St w rt bt m l W) (p : Int) : Calls Try.prog 19 #[.pointer (some ⟨bt, 0, none⟩), .int .i64 p] W
    fun e w' => e = .returned (gotV (look m p)) ∧ St w rt bt (clearM m p) l w' ∧ Kp W w' := by
  obtain ⟨q, h1, h2, h3, h4⟩ := h
  exact (clear_any h1 p).mono fun e w' ⟨he, hm⟩ => ⟨he, st_mut h1 h2 h3 h4 hm⟩
theorem st_clean (h : St w rt bt m l W) : Calls Try.prog 20 #[.pointer (some ⟨bt, 0, none⟩)] W
    fun e w' => e = .returned (.int .i64 (filt E.d (list m)).length) ∧ St w rt bt (cl m) l w' ∧ Kp W w' := by
  obtain ⟨q, h1, h2, h3, h4⟩ := h
  exact (clean_any h1).mono fun e w' ⟨he, hm⟩ => ⟨he, st_mut h1 h2 h3 h4 hm⟩
theorem st_rset {m0 : M} (h : St w rt bt m (list m0) W) (x : E) (p : Int) : Calls Try.prog 23 #[.pointer (some ⟨rt, 0, none⟩), .int .i64 p, x.val] W
    fun e w' => e = .returned (.int .i64 (if may p x then 0 else 50)) ∧ St w rt bt m (list (setM m0 p x)) w' ∧ Kp W w' := by
  have hs := h.size
  obtain ⟨q, h1, h2, h3, h4⟩ := id h
  exact (refSet_any h3 hs p x).mono fun e w' ⟨he, hr, hb⟩ => ⟨he, st_ref h hr hb⟩
theorem st_rclear {m0 : M} (h : St w rt bt m (list m0) W) (p : Int) : Calls Try.prog 24 #[.pointer (some ⟨rt, 0, none⟩), .int .i64 p] W
    fun e w' => e = .returned (gotV (look m0 p)) ∧ St w rt bt m (list (clearM m0 p)) w' ∧ Kp W w' := by
  have hs := h.size
  obtain ⟨q, h1, h2, h3, h4⟩ := id h
  exact (refClear_any h3 hs p).mono fun e w' ⟨he, hr, hb⟩ => ⟨he, st_ref h hr hb⟩
theorem st_rclean {m0 : M} (h : St w rt bt m (list m0) W) : Calls Try.prog 25 #[.pointer (some ⟨rt, 0, none⟩)] W
    fun e w' => e = .returned (.int .i64 (filt E.d (list m0)).length) ∧ St w rt bt m (list (cl m0)) w' ∧ Kp W w' := by
  have hs := h.size
  obtain ⟨q, h1, h2, h3, h4⟩ := id h
  exact (refClean_any h3 hs).mono fun e w' ⟨he, hr, hb⟩ => ⟨he, st_ref h hr hb⟩
theorem st_copy (h : St w rt bt m l W) : Calls Try.prog 26 #[.pointer (some ⟨bt, 0, none⟩)] W
    fun e w' => e = .returned (.pointer (some ⟨W.heap.size, 0, none⟩)) ∧ St2 w rt W.heap.size bt m m l w' ∧ Kp W w' := by
  have hs := h.size
  obtain ⟨q, h1, h2, h3, h4⟩ := id h
  refine (copy_any h1).mono fun e w' hh => ?_
  obtain ⟨q', he, ht, hb, ho⟩ := hh
  exact ⟨he, ⟨q', q, ht, fun k hk => Nat.le_trans hs (ho k hk), h3.below hb, h4.trans (hb.mono hs), h1.below hb (Nat.le_refl _), fun k hk => ⟨h2 k hk, fun hk' => by have := ho k hk'; have := h1.own_lt hk; omega⟩⟩, Kp.below hb⟩
theorem st2_set (h : St2 w rt bt bo m mo l W) (x : E) (p : Int) : Calls Try.prog 16 #[.pointer (some ⟨bo, 0, none⟩), .int .i64 p, x.val] W
    fun e w' => e = .returned (.int .i64 (if may p x then 0 else 50)) ∧ St2 w rt bt bo m (setM mo p x) l w' ∧ Kp W w' := by
  obtain ⟨q, qo, h1, h2, h3, h4, h5, h6⟩ := id h
  exact (set_any h5 x p).mono fun e w' ⟨he, hm⟩ => ⟨he, st2_mut h h1 h2 h3 h4 h5 h6 hm⟩
theorem st2_clear (h : St2 w rt bt bo m mo l W) (p : Int) : Calls Try.prog 19 #[.pointer (some ⟨bo, 0, none⟩), .int .i64 p] W
    fun e w' => e = .returned (gotV (look mo p)) ∧ St2 w rt bt bo m (clearM mo p) l w' ∧ Kp W w' := by
  obtain ⟨q, qo, h1, h2, h3, h4, h5, h6⟩ := id h
  exact (clear_any h5 p).mono fun e w' ⟨he, hm⟩ => ⟨he, st2_mut h h1 h2 h3 h4 h5 h6 hm⟩
theorem st2_clean (h : St2 w rt bt bo m mo l W) : Calls Try.prog 20 #[.pointer (some ⟨bo, 0, none⟩)] W
    fun e w' => e = .returned (.int .i64 (filt E.d (list mo)).length) ∧ St2 w rt bt bo m (cl mo) l w' ∧ Kp W w' := by
  obtain ⟨q, qo, h1, h2, h3, h4, h5, h6⟩ := id h
  exact (clean_any h5).mono fun e w' ⟨he, hm⟩ => ⟨he, st2_mut h h1 h2 h3 h4 h5 h6 hm⟩
theorem st_alike (h : St w rt bt m (list m) W) (p n : Int) (hlo : -9223372036854775808 ≤ n) (hhi : n ≤ 9223372036854775807) :
    Calls Try.prog 28 #[.pointer (some ⟨bt, 0, none⟩), .pointer (some ⟨rt, 0, none⟩), .int .i64 p, .int .i64 n] W fun e w' => e = .returned (.bool true) ∧ St w rt bt m (list m) w' ∧ Kp W w' := by
  obtain ⟨q, h1, h2, h3, h4⟩ := id h
  exact (alike_any h1 h3 p n hlo hhi).mono fun e w' ⟨he, hb⟩ => ⟨he, h.below hb, Kp.below hb⟩
theorem st_start (w : World) : St w (w.heap.size + 1) w.heap.size (fun _ => none) (list (fun _ => none)) ((w.alloc (.cells #[.pointer none, .pointer none, .pointer none, .pointer none, .pointer none, .pointer none, .pointer none, .pointer none] 49)).alloc (.cells #[.slice none 0 0] 52)) := by
  obtain ⟨q, ht, ho⟩ := tabNew_empty w
  have hb1 := (Below.refl w.heap.size w).alloc (Nat.le_refl _) (.cells #[.pointer none, .pointer none, .pointer none, .pointer none, .pointer none, .pointer none, .pointer none, .pointer none] 49)
  refine ⟨q, ht.alloc _, ho, ⟨.slice none 0 0, ?_, World.ownsRow_nil _ _ _ _, by omega, by simp [Value.ownBlock]⟩, hb1.alloc (by simp) _⟩
  have := Blk.new (w.alloc (.cells #[.pointer none, .pointer none, .pointer none, .pointer none, .pointer none, .pointer none, .pointer none, .pointer none] 49)) 52 #[.slice none 0 0]
  rw [World.size_alloc] at this
  exact this
end
end Go.Proofs.Ytgdimjcpdndklaa
