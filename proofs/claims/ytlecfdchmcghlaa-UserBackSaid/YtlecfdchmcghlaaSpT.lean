/-
  Several spaces over frames of their own, kept through calls. Condition: none.
-/
import Derived.Test.YtlecfdchmcghlaaSpO
namespace Go.Proofs.Ytlecfdchmcghlaa
open Go.RowKit Go.Shelf
set_option linter.unusedVariables false
set_option linter.unusedSimpArgs false

/-- All blocks lie that are no rows of frames and no parts of tables. -/
def KeepT (W W' : World) : Prop := W.heap.size ≤ W'.heap.size ∧ ∀ (k : Nat) (t : TypeId) (cs : Array Value), t ≠ 99 → t ≠ 61 → t ≠ 105 → Blk W k t cs → Blk W' k t cs
theorem KeepT.refl (W : World) : KeepT W W := ⟨Nat.le_refl _, fun _ _ _ _ _ _ h => h⟩
theorem KeepT.trans {A B C : World} (h : KeepT A B) (k : KeepT B C) : KeepT A C := ⟨Nat.le_trans h.1 k.1, fun i t cs h1 h2 h3 hb => k.2 i t cs h1 h2 h3 (h.2 i t cs h1 h2 h3 hb)⟩
theorem KeepT.of_below {W W' : World} (h : Below W.heap.size W W') : KeepT W W' := ⟨h.size, fun k t cs _ _ _ hb => hb.below h hb.lt⟩
theorem own_type {w : World} {bt : Nat} {q : Nat → Option Nat} {m : M} (h : Tab w bt q m) {k : Nat} (hk : Own bt q k) : ∃ t cs, (t = 61 ∨ t = 105) ∧ Blk w k t cs := by
  rcases hk with rfl | ⟨i, hi, hq⟩
  · exact ⟨_, _, .inl rfl, h.top⟩
  · exact ⟨_, _, .inr rfl, h.part i k hi hq⟩
theorem not_own {w : World} {bt : Nat} {q : Nat → Option Nat} {m : M} (h : Tab w bt q m) {k : Nat} {t : TypeId} {cs : Array Value} (hb : Blk w k t cs) (h1 : t ≠ 61) (h2 : t ≠ 105) : ¬ Own bt q k := fun hk => by
  obtain ⟨t', cs', ht, hb'⟩ := own_type h hk
  refine hb.ne_ hb' (fun e => ?_) rfl
  rcases ht with rfl | rfl
  · exact h1 e
  · exact h2 e
theorem KeepT.of_but {W W' : World} {fb lb cap : Nat} {F : Fs} {sb bt : Nat} {q : Nat → Option Nat} {m : M} (h : FS W fb lb cap F sb bt q m) {S : Nat → Prop} (hb : But S W W') (hS : ∀ k, S k → k = lb ∨ Own bt q k) : KeepT W W' := by
  refine ⟨hb.size, fun k t cs h1 h2 h3 hk => hk.but hb (fun hs => ?_)⟩
  rcases hS k hs with rfl | ho
  · obtain ⟨more, hl⟩ := h.f.l
    exact hk.ne_ hl h1 rfl
  · exact not_own h.s.t hk h2 h3 ho
theorem cntS_ext {ms ms' : Nat → M} (k : Nat) : ∀ s, (∀ i, i < s → ms i = ms' i) → cntS ms k s = cntS ms' k s
  | 0, _ => rfl
  | s + 1, h => by rw [cntS, cntS, cntS_ext k s (fun i hi => h i (by omega)), h s (by omega)]
theorem GI.ext {F : Fs} {ms ms' : Nat → M} {s : Nat} (h : GI F ms s) (e : ∀ i, i < s → ms i = ms' i) : GI F ms' s :=
  ⟨h.fok, fun i p x hi hp hx => h.rng i p x hi hp (by rw [e i hi]; exact hx), fun k => (h.cnt k).trans (cntS_ext k s e), h.zero,
    fun i i' p p' x y hi hi' hp hp' hx hy => h.page i i' p p' x y hi hi' hp hp' (by rw [e i hi]; exact hx) (by rw [e i' hi']; exact hy),
    fun i p x hi hp hx => h.eok i p x hi hp (by rw [e i hi]; exact hx), fun i p x hi hp hx => h.own1 i p x hi hp (by rw [e i hi]; exact hx)⟩
theorem cntF_le (m : M) (k : Nat) : ∀ n, cntF m k n ≤ n
  | 0 => Nat.le_refl _
  | n + 1 => by
    have := cntF_le m k n
    rw [cntF]
    have : ind (m n) k ≤ 1 := by
      unfold ind
      split
      · split <;> omega
      · omega
    omega
theorem cntS_le (ms : Nat → M) (k : Nat) : ∀ s, cntS ms k s ≤ s * 64
  | 0 => Nat.zero_le _
  | s + 1 => by
    have h1 := cntS_le ms k s
    have h2 := cntF_le (ms s) k 64
    rw [cntS, Nat.succ_mul]
    omega
def updQ {α : Type} (f : Nat → α) (i : Nat) (v : α) : Nat → α := fun j => if j = i then v else f j
theorem updQ_same {α : Type} (f : Nat → α) (i : Nat) (v : α) : updQ f i v i = v := if_pos rfl
theorem updQ_other {α : Type} (f : Nat → α) {i j : Nat} (v : α) (h : j ≠ i) : updQ f i v j = f j := if_neg h
/-- Frames and s spaces, all new since w; counts are how many pages there are. -/
structure AS (w W : World) (fb lb cap : Nat) (F : Fs) (s : Nat) (sb bt : Nat → Nat) (q : Nat → Nat → Option Nat) (ms : Nat → M) : Prop where
  f : FrAt W fb lb cap F
  sp : ∀ i, i < s → SpAt W fb (sb i) (bt i) (q i) (ms i)
  ds : ∀ i j, i < s → j < s → i ≠ j → sb i ≠ sb j ∧ ∀ k, Own (bt i) (q i) k → ¬ Own (bt j) (q j) k
  lo : Below w.heap.size w W
  ge : w.heap.size ≤ fb ∧ w.heap.size ≤ lb ∧ ∀ i, i < s → w.heap.size ≤ sb i ∧ ∀ k, Own (bt i) (q i) k → w.heap.size ≤ k
  gi : GI F ms s
section
variable {w W W' : World} {fb lb cap : Nat} {F F' : Fs} {s : Nat} {sb bt : Nat → Nat} {q : Nat → Nat → Option Nat} {ms : Nat → M}
theorem AS.below (h : AS w W fb lb cap F s sb bt q ms) (hb : Below W.heap.size W W') : AS w W' fb lb cap F s sb bt q ms := ⟨h.f.below hb, fun i hi => (h.sp i hi).below hb, h.ds, bl_step h.lo hb, h.ge, h.gi⟩
theorem AS.drew (h : AS w W fb lb cap F s sb bt q ms) : AS w W.drew fb lb cap F s sb bt q ms := h.below (Below.refl _ _).drew
theorem AS.fs (h : AS w W fb lb cap F s sb bt q ms) {i : Nat} (hi : i < s) : FS W fb lb cap F (sb i) (bt i) (q i) (ms i) := by
  obtain ⟨more, hl⟩ := h.f.l
  have hs := h.sp i hi
  exact ⟨h.f, hs, not_own hs.t h.f.p (by decide) (by decide), not_own hs.t hl (by decide) (by decide), hs.p.ne_ hl (by decide), hs.p.ne_ h.f.p (by decide)⟩
theorem AS.ok (h : AS w W fb lb cap F s sb bt q ms) {i : Nat} (hi : i < s) : SpOk F (ms i) := h.gi.spOk hi
theorem AS.bytes (h : AS w W fb lb cap F s sb bt q ms) {i : Nat} (hi : i < s) {A : Option Addr} {c : Nat} {bs : List Int} (hb : BytesA w A c bs) (hp : 0 < bs.length) : ∃ g o : Nat, A = some ⟨g, o, none⟩ ∧ g < W.heap.size ∧ ¬ WS lb (bt i) (q i) g ∧ ∀ (j : Nat) (v : Value), (bs.map fun x => Value.int .u8 x)[j]? = some v → W.cell? ⟨g, o + j, none⟩ = some v := by
  obtain ⟨g, o, e, hg, hc⟩ := hb.src hp
  obtain ⟨g1, g2, g3⟩ := h.ge
  refine ⟨g, o, e, Nat.lt_of_lt_of_le hg h.lo.size, fun hk => ?_, fun j v hv => (h.lo.cell hg).trans (hc j v hv)⟩
  rcases hk with rfl | hk
  · omega
  · have := (g3 i hi).2 g hk
    omega
/-- A call has turned space i alone, and frames. -/
theorem AS.fout (h : AS w W fb lb cap F s sb bt q ms) {i : Nat} (hi : i < s) {m' : M} (ho : FOut W fb lb cap F' (sb i) (bt i) (q i) m' W') (hg : GI F' (updS ms i m') s) : ∃ q', AS w W' fb lb cap F' s sb bt q' (updS ms i m') ∧ KeepT W W' := by
  obtain ⟨qi, hs, hb, hq⟩ := ho
  have hfs := h.fs hi
  obtain ⟨g1, g2, g3⟩ := h.ge
  have hlt : ∀ j, j < s → ∀ k, Own (bt j) (q j) k → k < W.heap.size := fun j hj k hk => (h.sp j hj).t.own_lt hk
  have hsz := h.lo.size
  have hne : ∀ j, j < s → j ≠ i → ¬ (sb j = lb ∨ Own (bt i) (q i) (sb j)) := fun j hj hji e => by
    rcases e with e | e
    · exact (h.fs hj).d3 e
    · exact not_own hfs.s.t (h.sp j hj).p (by decide) (by decide) e
  have hno : ∀ j, j < s → j ≠ i → ∀ k, Own (bt j) (q j) k → ¬ (k = lb ∨ Own (bt i) (q i) k) := fun j hj hji k hk e => by
    rcases e with rfl | e
    · exact (h.fs hj).d2 hk
    · exact (h.ds j i hj hi hji).2 k hk e
  refine ⟨updQ q i qi, ⟨hs.f, fun j hj => ?_, fun j l hj hl hjl => ⟨(h.ds j l hj hl hjl).1, fun k hk => ?_⟩, h.lo.trans (hb.below (fun k hk => ?_) h.lo.size), ⟨g1, g2, fun j hj => ⟨(g3 j hj).1, fun k hk => ?_⟩⟩, hg⟩, KeepT.of_but hfs hb (fun k hk => hk)⟩
  · by_cases e : j = i
    · subst e
      rw [updQ_same, updS_same]
      exact hs.s
    · rw [updQ_other _ _ e, updS_other _ _ e]
      have := h.sp j hj
      exact ⟨this.p.but hb (hne j hj e), this.t.but hb (hno j hj e), this.ne⟩
  · by_cases e : j = i
    · subst e
      rw [updQ_same] at hk
      rw [updQ_other _ _ (fun e => hjl e.symm)]
      rcases hq k hk with h1 | h1
      · exact (h.ds j l hj hl hjl).2 k h1
      · intro h2
        have := hlt l hl k h2
        omega
    · rw [updQ_other _ _ e] at hk
      by_cases e2 : l = i
      · subst e2
        rw [updQ_same]
        intro h2
        rcases hq k h2 with h1 | h1
        · exact (h.ds j l hj hl hjl).2 k hk h1
        · have := hlt j hj k hk
          omega
      · rw [updQ_other _ _ e2]
        exact (h.ds j l hj hl hjl).2 k hk
  · rcases hk with rfl | hk
    · exact g2
    · exact (g3 i hi).2 k hk
  · by_cases e : j = i
    · subst e
      rw [updQ_same] at hk
      rcases hq k hk with h1 | h1
      · exact (g3 j hj).2 k h1
      · omega
    · rw [updQ_other _ _ e] at hk
      exact (g3 j hj).2 k hk
theorem FOut.of_wout {w w' : World} {fb lb cap : Nat} {F : Fs} {sb bt : Nat} {q : Nat → Option Nat} {m : M} (h : WOut w w' fb lb cap F sb bt q m) : FOut w fb lb cap F sb bt q m w' := ⟨q, h.1, h.2, fun k hk => .inl hk⟩
theorem asMap (h : AS w W fb lb cap F s sb bt q ms) {i : Nat} (hi : i < s) (p n : Int) (mw sh : Bool) :
    Calls Try.prog 12 #[.pointer (some ⟨sb i, 0, none⟩), .int .i64 p, .int .i64 n, .bool mw, .bool sh] W fun e W' => e = .returned (.int .i64 (mapA F (ms i) p n mw sh).1) ∧ ∃ q', AS w W' fb lb cap (mapA F (ms i) p n mw sh).2.1 s sb bt q' (updS ms i (mapA F (ms i) p n mw sh).2.2) ∧ KeepT W W' :=
  (spMap_any (h.fs hi) p n mw sh).mono fun e W' ⟨h1, h2⟩ => ⟨h1, h.fout hi h2 (h.gi.mapA hi p n mw sh)⟩
theorem asWrite (h : AS w W fb lb cap F s sb bt q ms) {i : Nat} (hi : i < s) (a : Nat) {A : Option Addr} {c : Nat} {bs : List Int} (ha : a < 4294967296) (hb : BytesA w A c bs) (hl : bs.length ≤ 4096) :
    Calls Try.prog 21 #[.pointer (some ⟨sb i, 0, none⟩), .int .u32 a, .slice A bs.length c] W fun e W' => e = .returned (.int .i64 (writeA F (ms i) a bs).1) ∧ ∃ q', AS w W' fb lb cap (writeA F (ms i) a bs).2.1 s sb bt q' (updS ms i (writeA F (ms i) a bs).2.2) ∧ KeepT W W' :=
  (spWrite_any (h.fs hi) (h.ok hi) a bs A c ha hl hb.low (h.bytes hi hb) hb.cap).mono fun e W' ⟨h1, h2⟩ => ⟨h1, h.fout hi (FOut.of_wout h2) (h.gi.writeA hi a hl hb.low)⟩
theorem asClone (h : AS w W fb lb cap F s sb bt q ms) {i : Nat} (hi : i < s) (hs : s ≤ 1000) :
    Calls Try.prog 13 #[.pointer (some ⟨sb i, 0, none⟩)] W fun e W' => ∃ so bo qo, e = .returned (.pointer (some ⟨so, 0, none⟩)) ∧
      AS w W' fb lb cap (clG F (ms i) (list (ms i)) (list (ms i)).length).1 (s + 1) (updQ sb s so) (updQ bt s bo) (updQ q s qo) (updS (updS ms i (clG F (ms i) (list (ms i)) (list (ms i)).length).2.1) s (clG F (ms i) (list (ms i)) (list (ms i)).length).2.2) ∧ KeepT W W' := by
  have htop : ∀ k, F.r k + 64 < 1000000 := fun k => by
    have := cntS_le ms k s
    rw [h.gi.cnt]
    omega
  refine (spClone_any (h.fs hi) (fun p x hp hx => h.gi.eok i p x hi hp hx) htop).mono ?_
  rintro e W' ⟨so, bo, gr, rows, rfl, hc⟩
  obtain ⟨qo, ho1, ho2⟩ := hc.out
  have hfs := h.fs hi
  obtain ⟨g1, g2, g3⟩ := h.ge
  have hsz := h.lo.size
  have hso := hc.so_
  have hlt : ∀ j, j < s → ∀ k, Own (bt j) (q j) k → k < W.heap.size := fun j hj k hk => (h.sp j hj).t.own_lt hk
  have hsl : ∀ j, j < s → sb j < W.heap.size := fun j hj => (h.sp j hj).p.lt
  have hg := h.gi.clone hi htop _ (Nat.le_refl _)
  refine ⟨so, bo, qo, rfl, ⟨hc.fs.f, fun j hj => ?_, fun j l hj hl hjl => ?_, h.lo.trans (hc.bu.below (fun k hk => ?_) h.lo.size), ⟨g1, g2, fun j hj => ?_⟩, hg⟩, KeepT.of_but hfs hc.bu (fun k hk => hk)⟩
  · by_cases e : j = s
    · subst e
      rw [updQ_same, updQ_same, updQ_same, updS_same]
      exact ho1
    · have hj : j < s := by omega
      rw [updQ_other _ _ e, updQ_other _ _ e, updQ_other _ _ e, updS_other _ _ e]
      by_cases e2 : j = i
      · subst e2
        rw [updS_same]
        exact hc.fs.s
      · rw [updS_other _ _ e2]
        have := h.sp j hj
        refine ⟨this.p.but hc.bu (fun e => ?_), this.t.but hc.bu (fun k hk e => ?_), this.ne⟩
        · rcases e with e | e
          · exact (h.fs hj).d3 e
          · exact not_own hfs.s.t this.p (by decide) (by decide) e
        · rcases e with rfl | e
          · exact (h.fs hj).d2 hk
          · exact (h.ds j i hj hi e2).2 k hk e
  · by_cases e : j = s
    · subst e
      have hl : l < j := by omega
      rw [updQ_same, updQ_same, updQ_same, updQ_other _ _ (by omega), updQ_other _ _ (by omega), updQ_other _ _ (by omega)]
      have := hsl l hl
      exact ⟨by omega, fun k hk h2 => by have := hlt l hl k h2; have := ho2 k hk; omega⟩
    · have hj : j < s := by omega
      by_cases e2 : l = s
      · subst e2
        rw [updQ_same, updQ_same, updQ_same, updQ_other _ _ e, updQ_other _ _ e, updQ_other _ _ e]
        have := hsl j hj
        exact ⟨by omega, fun k hk h2 => by have := hlt j hj k hk; have := ho2 k h2; omega⟩
      · rw [updQ_other _ _ e, updQ_other _ _ e, updQ_other _ _ e, updQ_other _ _ e2, updQ_other _ _ e2, updQ_other _ _ e2]
        exact h.ds j l hj (by omega) hjl
  · rcases hk with rfl | hk
    · exact g2
    · exact (g3 i hi).2 k hk
  · by_cases e : j = s
    · subst e
      rw [updQ_same, updQ_same, updQ_same]
      exact ⟨by omega, fun k hk => by have := ho2 k hk; omega⟩
    · rw [updQ_other _ _ e, updQ_other _ _ e, updQ_other _ _ e]
      exact g3 j (by omega)
theorem asFrames (n : Nat) (hn : 1 ≤ n ∧ n ≤ 256) : Calls Try.prog 10 #[.int .i64 (n : Int)] W fun e W' => ∃ fb lb, e = .returned (.tuple #[.pointer (some ⟨fb, 0, none⟩), .int .i64 0]) ∧ FrAt W' fb lb n (Fs.new n) ∧ Below W.heap.size W W' ∧ W.heap.size ≤ fb ∧ W.heap.size ≤ lb :=
  (frNew_any n hn).mono fun e W' ⟨h1, h2, h3⟩ => ⟨_, _, h1, h2, h3, by omega, by omega⟩
theorem asSpace {n : Nat} (h : FrAt W fb lb n (Fs.new n)) (hn : 1 ≤ n ∧ n ≤ 256) (hl : Below w.heap.size w W) (h1 : w.heap.size ≤ fb) (h2 : w.heap.size ≤ lb) :
    Calls Try.prog 11 #[.pointer (some ⟨fb, 0, none⟩)] W fun e W' => ∃ so bo, e = .returned (.pointer (some ⟨so, 0, none⟩)) ∧ AS w W' fb lb n (Fs.new n) 1 (fun _ => so) (fun _ => bo) (fun _ => q0) (fun _ => m0) ∧ Below W.heap.size W W' := by
  refine (spNew_any (w := W) fb).mono ?_
  rintro e W' ⟨rfl, hs, hb⟩
  have hz := hl.size
  have hlt := h.lt
  have hown : ∀ k, Own W.heap.size q0 k → k = W.heap.size := fun k hk => by
    rcases hk with h | ⟨_, _, h⟩
    · exact h
    · cases h
  exact ⟨_, _, rfl, ⟨h.below hb, fun i hi => hs, fun i j hi hj hij => absurd (show i = j by omega) hij, bl_step hl hb, ⟨h1, h2, fun i hi => ⟨by omega, fun k hk => by rw [hown k hk]; exact hz⟩⟩, GI.start hn 1⟩, hb⟩
end
end Go.Proofs.Ytlecfdchmcghlaa
