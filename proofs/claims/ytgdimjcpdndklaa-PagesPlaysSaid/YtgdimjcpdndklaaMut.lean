/-
  Tables that are turned, beside lists that were told of them: what a law's walk keeps. No condition.
-/
import Derived.Test.YtgdimjcpdndklaaSame
import Derived.Test.YtgdimjcpdndklaaOpen
namespace Go.Proofs.Ytgdimjcpdndklaa
open Go.RowKit
set_option linter.unusedVariables false

theorem tab_but {w w' : World} {bt : Nat} {q : Nat → Option Nat} {m : M} {S : Nat → Prop} (h : Tab w bt q m) (hb : But S w w') (hS : ∀ k, Own bt q k → ¬ S k) : Tab w' bt q m :=
  ⟨h.top.but hb (hS _ (.inl rfl)), fun k pb hk hq => (h.part k pb hk hq).but hb (hS _ (.inr ⟨k, hk, hq⟩)), h.some_, h.none_, h.inj⟩
theorem Mut.start {w : World} {bt : Nat} {q : Nat → Option Nat} {m : M} (h : Tab w bt q m) : Mut w bt q m w := ⟨q, h, But.refl _ _, fun k hk => .inl hk⟩
theorem Mut.butOf {w w' : World} {bt : Nat} {q : Nat → Option Nat} {m : M} (h : Mut w bt q m w') : But (Own bt q) w w' := h.elim fun _ x => x.2.1
theorem Mut.drew {w w' : World} {bt : Nat} {q : Nat → Option Nat} {m : M} (h : Mut w bt q m w') : Mut w bt q m w'.drew := by
  obtain ⟨q', ht, hb, ho⟩ := h
  exact ⟨q', ht.drew, hb.drew, ho⟩
theorem Mut.go {w w1 w2 : World} {bt : Nat} {q q1 : Nat → Option Nat} {m : M} (hb : But (Own bt q) w w1) (ho : ∀ k, Own bt q1 k → Own bt q k ∨ w.heap.size ≤ k) (h : Mut w1 bt q1 m w2) : Mut w bt q m w2 := by
  obtain ⟨q', ht, hb', ho'⟩ := h
  refine ⟨q', ht, hb.trans hb' ho, fun k hk => ?_⟩
  rcases ho' k hk with h1 | h1
  · exact ho k h1
  · exact .inr (Nat.le_trans hb.size h1)
theorem OpsAt.but {w w' : World} {A : Option Addr} {l : List O} {S : Nat → Prop} (h : OpsAt w A l) (hb : But S w w') (hl : 0 < l.length → ∀ b off, A = some ⟨b, off, none⟩ → ¬ S b) : OpsAt w' A l := fun i o ho => by
  obtain ⟨b, off, hA, hlt, h0, h1, h2, h3, h4, h5, h6⟩ := h i o ho
  have hlB := hb.block b hlt (hl (by have := (List.getElem?_eq_some_iff.1 ho).1; omega) b off hA)
  have hc : ∀ k, w'.cell? ⟨b, k, none⟩ = w.cell? ⟨b, k, none⟩ := fun k => by
    unfold World.cell?
    simp only [hlB]
  exact ⟨b, off, hA, Nat.lt_of_lt_of_le hlt hb.size, (hc _).trans h0, (hc _).trans h1, (hc _).trans h2, (hc _).trans h3, (hc _).trans h4, (hc _).trans h5, (hc _).trans h6⟩

section
variable {w W : World} {bt : Nat} {q : Nat → Option Nat} {m : M}
theorem set_mut (h : Mut w bt q m W) (x : E) (p : Int) : Calls Try.prog 16 #[.pointer (some ⟨bt, 0, none⟩), .int .i64 p, x.val] W
    fun e w' => e = .returned (.int .i64 (if may p x then 0 else 50)) ∧ Mut w bt q (setM m p x) w' := by
  obtain ⟨q1, ht, hb, ho⟩ := h
  exact (set_any ht x p).mono fun e w' ⟨he, hm⟩ => ⟨he, Mut.go hb ho hm⟩
theorem clear_mut (h : Mut w bt q m W) (p : Int) : Calls Try.prog 19 #[.pointer (some ⟨bt, 0, none⟩), .int .i64 p] W
    fun e w' => e = .returned (gotV (look m p)) ∧ Mut w bt q (clearM m p) w' := by
  obtain ⟨q1, ht, hb, ho⟩ := h
  exact (clear_any ht p).mono fun e w' ⟨he, hm⟩ => ⟨he, Mut.go hb ho hm⟩
theorem clean_mut (h : Mut w bt q m W) : Calls Try.prog 20 #[.pointer (some ⟨bt, 0, none⟩)] W
    fun e w' => e = .returned (.int .i64 (filt E.d (list m)).length) ∧ Mut w bt q (cl m) w' := by
  obtain ⟨q1, ht, hb, ho⟩ := h
  exact (clean_any ht).mono fun e w' ⟨he, hm⟩ => ⟨he, Mut.go hb ho hm⟩
end


theorem Mut.drewN {w w' : World} {bt : Nat} {q : Nat → Option Nat} {m : M} (h : Mut w bt q m w') (n : Nat) : Mut w bt q m (w'.drewN n) := by
  obtain ⟨q', ht, hb, ho⟩ := h
  exact ⟨q', ⟨ht.top, ht.part, ht.some_, ht.none_, ht.inj⟩, ⟨hb.os, hb.tape, hb.output, hb.size, hb.block⟩, ho⟩
theorem Mut.below {w w1 w2 : World} {bt : Nat} {q : Nat → Option Nat} {m : M} (h : Mut w bt q m w1) (hb : Below w1.heap.size w1 w2) : Mut w bt q m w2 := by
  obtain ⟨q', ht, hb', ho⟩ := h
  exact ⟨q', ht.below hb (Nat.le_refl _), hb'.thenBelow hb hb'.size, ho⟩
theorem Mut.alloc {w w1 : World} {bt : Nat} {q : Nat → Option Nat} {m : M} (h : Mut w bt q m w1) (o : Obj) : Mut w bt q m (w1.alloc o) := h.below ((Below.refl _ _).alloc (Nat.le_refl _) o)
theorem mapsAt_but {w w' : World} {A : Option Addr} {l : List (Nat × E)} {S : Nat → Prop} (h : MapsAt w A l) (hb : But S w w') (hl : 0 < l.length → ∀ b off, A = some ⟨b, off, none⟩ → ¬ S b) : MapsAt w' A l := fun i o ho => by
  obtain ⟨b, off, hA, hlt, h0, h1, h2, h3, h4, h5⟩ := h i o ho
  have hlB := hb.block b hlt (hl (by have := (List.getElem?_eq_some_iff.1 ho).1; omega) b off hA)
  have hc : ∀ k, w'.cell? ⟨b, k, none⟩ = w.cell? ⟨b, k, none⟩ := fun k => by
    unfold World.cell?
    simp only [hlB]
  exact ⟨b, off, hA, Nat.lt_of_lt_of_le hlt hb.size, (hc _).trans h0, (hc _).trans h1, (hc _).trans h2, (hc _).trans h3, (hc _).trans h4, (hc _).trans h5⟩

section
variable {w W : World} {bt : Nat} {q : Nat → Option Nat} {m : M}
theorem get_mut (h : Mut w bt q m W) (p : Int) : Calls Try.prog 13 #[.pointer (some ⟨bt, 0, none⟩), .int .i64 p] W
    fun e w' => e = .returned (gotV (look m p)) ∧ Mut w bt q m w' := by
  obtain ⟨q1, ht, hb, ho⟩ := id h
  exact (get_any ht p).mono fun e w' ⟨he, hb⟩ => ⟨he, h.below hb⟩
theorem len_mut (h : Mut w bt q m W) : Calls Try.prog 21 #[.pointer (some ⟨bt, 0, none⟩)] W fun e w' => e = .returned (.int .i64 (list m).length) ∧ Mut w bt q m w' := by
  obtain ⟨q1, ht, hb, ho⟩ := id h
  exact (len_any ht).mono fun e w' ⟨he, hb⟩ => ⟨he, h.below hb⟩
theorem parts_mut (h : Mut w bt q m W) : Calls Try.prog 15 #[.pointer (some ⟨bt, 0, none⟩)] W fun e w' => e = .returned (.int .i64 (cntM m 8)) ∧ W = w' := by
  obtain ⟨q1, ht, hb, ho⟩ := id h
  exact parts_any ht
theorem hole_mut (h : Mut w bt q m W) (n : Int) (hlo : -9223372036854775808 ≤ n) (hhi : n ≤ 9223372036854775807) : Calls Try.prog 12 #[.pointer (some ⟨bt, 0, none⟩), .int .i64 n] W
    fun e w' => e = .returned (.tuple #[.int .i64 (hole m n).1, .bool (hole m n).2]) ∧ Mut w bt q m w' := by
  obtain ⟨q1, ht, hb, ho⟩ := id h
  exact (hole_any ht n hlo hhi).mono fun e w' ⟨he, hb⟩ => ⟨he, h.below hb⟩
theorem own_low {w : World} {base : Nat} {A : Option Addr} {n c : Nat} {t : TypeId} {s : Nat} {cs : List Value} (h : w.ownsRow base t s (.slice A n c) n cs) : ∀ b off, A = some ⟨b, off, none⟩ → base ≤ b := by
  rcases h.2 with ⟨h0, _⟩ | ⟨g, cap, cur, h0, hb, _⟩
  · injection h0 with h0 _ _
    subst h0
    intro b off h; cases h
  · injection h0 with h0 _ _
    subst h0
    intro b off h
    injection h with h
    injection h with h
    omega
theorem list_mut (h : Mut w bt q m W) : Calls Try.prog 14 #[.pointer (some ⟨bt, 0, none⟩)] W
    fun e w' => ∃ A c, e = .returned (.slice A (list m).length c) ∧ MapsAt w' A (list m) ∧ (∀ b off, A = some ⟨b, off, none⟩ → W.heap.size ≤ b) ∧ Mut w bt q m w' ∧ Below W.heap.size W w' := by
  obtain ⟨q1, ht, hb, ho⟩ := id h
  refine (list_any ht).mono fun e w' ⟨v, he, hv, hv0, hb⟩ => ?_
  obtain ⟨A, c, rfl, hA⟩ := mapsAt_own hv
  exact ⟨A, c, he, hA, own_low hv, h.below hb, hb⟩
end

/-- Mut, and beside it blocks that are not the table's, known whole. -/
def MB (w : World) (bt : Nat) (q : Nat → Option Nat) (m : M) (L : List (Nat × TypeId × Array Value)) (W : World) : Prop :=
  ∃ q', Tab W bt q' m ∧ But (Own bt q) w W ∧ (∀ k, Own bt q' k → Own bt q k ∨ w.heap.size ≤ k) ∧ ∀ x ∈ L, ¬ Own bt q' x.1 ∧ Blk W x.1 x.2.1 x.2.2
section
variable {w W W2 : World} {bt : Nat} {q : Nat → Option Nat} {m m2 : M} {L : List (Nat × TypeId × Array Value)}
theorem MB.mut (h : MB w bt q m L W) : Mut w bt q m W := by obtain ⟨q', a, b, c, _⟩ := h; exact ⟨q', a, b, c⟩
theorem MB.ofMut (h : Mut w bt q m W) : MB w bt q m [] W := by obtain ⟨q', a, b, c⟩ := h; exact ⟨q', a, b, c, fun x hx => by cases hx⟩
theorem MB.blk (h : MB w bt q m L W) {g : Nat} {t : TypeId} {cs : Array Value} (hx : (g, t, cs) ∈ L) : Blk W g t cs := by obtain ⟨q', _, _, _, d⟩ := h; exact (d _ hx).2
theorem MB.tail {x : Nat × TypeId × Array Value} (h : MB w bt q m (x :: L) W) : MB w bt q m L W := by obtain ⟨q', a, b, c, d⟩ := h; exact ⟨q', a, b, c, fun y hy => d y (List.mem_cons_of_mem _ hy)⟩
theorem MB.drewN (h : MB w bt q m L W) (n : Nat) : MB w bt q m L (W.drewN n) := by
  obtain ⟨q', ht, hb, ho, hL⟩ := h
  exact ⟨q', ⟨ht.top, ht.part, ht.some_, ht.none_, ht.inj⟩, ⟨hb.os, hb.tape, hb.output, hb.size, hb.block⟩, ho, hL⟩
theorem MB.drew (h : MB w bt q m L W) : MB w bt q m L W.drew := by
  obtain ⟨q', ht, hb, ho, hL⟩ := h
  exact ⟨q', ht.drew, hb.drew, ho, hL⟩
theorem MB.below (h : MB w bt q m L W) (hb : Below W.heap.size W W2) : MB w bt q m L W2 := by
  obtain ⟨q', ht, hb', ho, hL⟩ := h
  exact ⟨q', ht.below hb (Nat.le_refl _), hb'.thenBelow hb hb'.size, ho, fun x hx => ⟨(hL x hx).1, (hL x hx).2.below hb (hL x hx).2.lt⟩⟩
theorem MB.alloc (h : MB w bt q m L W) (o : Obj) : MB w bt q m L (W.alloc o) := h.below ((Below.refl _ _).alloc (Nat.le_refl _) o)
theorem MB.new (h : MB w bt q m L W) (t : TypeId) (cs : Array Value) : MB w bt q m ((W.heap.size, t, cs) :: L) (W.alloc (.cells cs t)) := by
  obtain ⟨q', ht, hb', ho, hL⟩ := h.alloc (.cells cs t)
  have hlt : ∀ k, Own bt q k ∨ w.heap.size ≤ k → True := fun _ _ => trivial
  obtain ⟨q2, ht2, hb2, ho2, hL2⟩ := h
  have hL3 := hL2
  refine ⟨q2, ht2.alloc _, hb2.alloc _, ho2, fun x hx => ?_⟩
  rcases List.mem_cons.1 hx with rfl | hx
  · exact ⟨fun hj => Nat.lt_irrefl _ (ht2.own_lt hj), Blk.new _ _ _⟩
  · exact ⟨(hL2 x hx).1, (hL2 x hx).2.alloc _⟩
theorem MB.go {q1 : Nat → Option Nat} (ht : Tab W bt q1 m) (hb : But (Own bt q) w W) (ho : ∀ k, Own bt q1 k → Own bt q k ∨ w.heap.size ≤ k) (hL : ∀ x ∈ L, ¬ Own bt q1 x.1 ∧ Blk W x.1 x.2.1 x.2.2) (h : Mut W bt q1 m2 W2) : MB w bt q m2 L W2 := by
  obtain ⟨q', ht', hb', ho'⟩ := h
  refine ⟨q', ht', hb.trans hb' ho, fun k hk => ?_, fun x hx => ⟨fun hk => ?_, (hL x hx).2.but hb' (hL x hx).1⟩⟩
  · rcases ho' k hk with h1 | h1
    · exact ho k h1
    · exact .inr (Nat.le_trans hb.size h1)
  · rcases ho' _ hk with h1 | h1
    · exact (hL x hx).1 h1
    · have := (hL x hx).2.lt
      omega
theorem set_mb (h : MB w bt q m L W) (x : E) (p : Int) : Calls Try.prog 16 #[.pointer (some ⟨bt, 0, none⟩), .int .i64 p, x.val] W
    fun e w' => e = .returned (.int .i64 (if may p x then 0 else 50)) ∧ MB w bt q (setM m p x) L w' := by
  obtain ⟨q1, ht, hb, ho, hL⟩ := h
  exact (set_any ht x p).mono fun e w' ⟨he, hm⟩ => ⟨he, MB.go ht hb ho hL hm⟩
theorem clear_mb (h : MB w bt q m L W) (p : Int) : Calls Try.prog 19 #[.pointer (some ⟨bt, 0, none⟩), .int .i64 p] W
    fun e w' => e = .returned (gotV (look m p)) ∧ MB w bt q (clearM m p) L w' := by
  obtain ⟨q1, ht, hb, ho, hL⟩ := h
  exact (clear_any ht p).mono fun e w' ⟨he, hm⟩ => ⟨he, MB.go ht hb ho hL hm⟩
theorem clean_mb (h : MB w bt q m L W) : Calls Try.prog 20 #[.pointer (some ⟨bt, 0, none⟩)] W
    fun e w' => e = .returned (.int .i64 (filt E.d (list m)).length) ∧ MB w bt q (cl m) L w' := by
  obtain ⟨q1, ht, hb, ho, hL⟩ := h
  exact (clean_any ht).mono fun e w' ⟨he, hm⟩ => ⟨he, MB.go ht hb ho hL hm⟩
theorem get_mb (h : MB w bt q m L W) (p : Int) : Calls Try.prog 13 #[.pointer (some ⟨bt, 0, none⟩), .int .i64 p] W
    fun e w' => e = .returned (gotV (look m p)) ∧ MB w bt q m L w' := by
  obtain ⟨q1, ht, hb, ho, hL⟩ := id h
  exact (get_any ht p).mono fun e w' ⟨he, hb⟩ => ⟨he, h.below hb⟩
end

theorem list_len (m : M) : (list m).length ≤ 64 := listN_len m 64 0
theorem ecells {w : World} {g : Nat} {t : TypeId} {a b c d e : Value} (h : Blk w g t #[a, b, c, d, e]) : w.cell? ⟨g, 0, none⟩ = some a ∧ w.cell? ⟨g, 1, none⟩ = some b ∧ w.cell? ⟨g, 2, none⟩ = some c ∧ w.cell? ⟨g, 3, none⟩ = some d ∧ w.cell? ⟨g, 4, none⟩ = some e ∧ g < w.heap.size :=
  ⟨h.cell 0, h.cell 1, h.cell 2, h.cell 3, h.cell 4, h.lt⟩
theorem below_alloc {B : Nat} {a w : World} (h : Below B a w) (o : Obj) (hB : B ≤ w.heap.size) : Below B a (w.alloc o) := h.alloc hB o

/-! ## the plain law -/
def Good (m : M) : Prop := ∀ n x, m n = some x → x.ok = true
theorem good_step {m : M} (h : Good m) (o : O) : Good (stepM m o) := by
  unfold stepM
  split
  · unfold setM
    split
    · rename_i hm
      intro n y hy
      unfold upd at hy
      split at hy
      · simp only [Option.some.injEq] at hy
        subst hy
        simp only [may, Bool.and_eq_true] at hm
        exact hm.1.1
      · exact h n y hy
    · exact h
  · split
    · unfold clearM
      split
      · intro n y hy
        unfold upd at hy
        split at hy
        · cases hy
        · exact h n y hy
      · exact h
    · split
      · intro n y hy
        unfold cl at hy
        cases hmn : m n with
        | none => rw [hmn] at hy; cases hy
        | some z =>
          rw [hmn] at hy
          simp only [Option.map_some, Option.some.injEq] at hy
          subst hy
          have := h n z hmn
          exact this
      · exact h
theorem good_run : ∀ (l : List O) (m : M), Good m → Good (runM m l)
  | [], m, h => h
  | o :: l, m, h => good_run l _ (good_step h o)
theorem good_none (l : List O) : Good (runM (fun _ => none) l) := good_run l _ (fun n x h => by cases h)

theorem look_nat (m : M) {k : Nat} (hk : k < 64) : look m (k : Int) = m k := by
  unfold look; rw [if_pos ⟨by omega, by omega⟩]; rw [Int.toNat_natCast]
theorem setM_bad {m : M} {k : Nat} {x : E} (hx : x.ok = false) : setM m (k : Int) x = m := by
  unfold setM may; simp [hx]
theorem setM_good {m : M} {k : Nat} {x : E} (hk : k < 64) (hx : x.ok = true) : setM m (k : Int) x = upd m k (some x) := by
  unfold setM may; rw [if_pos (by simp [hx]; omega), Int.toNat_natCast]
theorem clearM_good {m : M} {k : Nat} (hk : k < 64) : clearM m (k : Int) = upd m k none := by
  unfold clearM; rw [if_pos ⟨by omega, by omega⟩, Int.toNat_natCast]
theorem upd_upd (m : M) (k : Nat) (a b : Option E) : upd (upd m k a) k b = upd m k b := by
  funext n; unfold upd; split <;> rfl
theorem upd_at (m : M) (k : Nat) (a : Option E) : upd m k a k = a := by unfold upd; simp
theorem upd_self (m : M) (k : Nat) (a : Option E) (h : m k = a) : upd m k a = m := by
  funext n; unfold upd; split
  · subst_vars; rfl
  · rfl

end Go.Proofs.Ytgdimjcpdndklaa
