/-
  What the law of writes asks, in plain words: what is written is read; which pages of which spaces are turned. Condition: none.
-/
import Derived.Test.YtolejpbdbjkndaaSpY
namespace Go.Proofs.Ytolejpbdbjkndaa
open Go.RowKit Go.Shelf
set_option linter.unusedVariables false
set_option linter.unusedSimpArgs false

theorem readK_get {F : Fs} {m : M} (hok : SpOk F m) (hF : F.Ok) {a n : Nat} (hO : okK m a false (pcJ a n)) : ∀ j, j ≤ pcJ a n → ∀ i, i < frK a n j → (readK F m a n j)[i]? = byteP F m (a + i)
  | 0, _, i, h => by rw [frK_zero] at h; omega
  | j + 1, hj, i, h => by
    have ih := readK_get hok hF hO j (by omega)
    obtain ⟨x, hx, _⟩ := hO j (by omega)
    have hf := (pcJ_iff a n j).2 (by omega)
    have hpg := frK_page hf
    have hst := frK_step hf
    have hlen := readK_len hok hF hO j (by omega)
    rw [readK, hx]
    by_cases hi : i < frK a n j
    · rw [List.getElem?_append_left (by omega)]
      exact ih i hi
    · rw [List.getElem?_append_right (by omega), hlen]
      show (partB F x.f.toNat ((a + frK a n j) % 64) (min (n - frK a n j) (64 - (a + frK a n j) % 64)))[i - frK a n j]? = _
      have hb := hF.len x.f.toNat
      have hdiv : (a + i) / 64 = a / 64 + j := by omega
      unfold partB byteP
      rw [List.getElem?_take, if_pos (by omega), List.getElem?_drop, hdiv, hx]
      show (F.b x.f.toNat)[(a + frK a n j) % 64 + (i - frK a n j)]? = some ((F.b x.f.toNat).getD ((a + i) % 64) 0)
      rw [show (a + frK a n j) % 64 + (i - frK a n j) = (a + i) % 64 by omega, List.getD_eq_getElem?_getD, List.getElem?_eq_getElem (by omega)]
      rfl
theorem pcJ_whole (a n : Nat) : frK a n (pcJ a n) = n := by
  have h1 := pcJ_iff a n (pcJ a n)
  have h2 := frK_le a n (pcJ a n)
  omega
/-- What is written is read. -/
theorem read_back {F : Fs} {ms : Nat → M} {s k : Nat} (h : GI F ms s) (hk : k < s) (a : Nat) {bs : List Int} (hl : bs.length ≤ 4096) (hlow : ∀ x ∈ bs, 0 ≤ x ∧ x ≤ 255) (h0 : (writeA F (ms k) a bs).1 = 0) :
    okK (writeA F (ms k) a bs).2.2 a false (pcJ a bs.length) ∧ readB (writeA F (ms k) a bs).2.1 (writeA F (ms k) a bs).2.2 a bs.length = bs := by
  have hG := h.writeA hk a hl hlow
  unfold writeA at h0 hG ⊢
  by_cases hO : okB (ms k) a true (pcJ a bs.length) = true
  · rw [if_pos hO] at h0 hG ⊢
    by_cases hf : freeN F < (needK F (ms k) a (pcJ a bs.length) : Nat)
    · rw [if_pos hf] at h0
      cases h0
    · rw [if_neg hf] at hG ⊢
      have hOk := (okB_iff _ _ _ _).1 hO
      obtain ⟨h1, h2, h3⟩ := writeGo_all (bs := bs) (h.spOk hk) h.fok hl hOk (by omega) hlow _ (Nat.le_refl _)
      have hby := byte_write (bs := bs) (h.spOk hk) h.fok hl rfl hOk (by omega) hlow
      show okK (writeGo F (ms k) a bs.length bs (pcJ a bs.length)).2 a false (pcJ a bs.length) ∧ readB (writeGo F (ms k) a bs.length bs (pcJ a bs.length)).1 (writeGo F (ms k) a bs.length bs (pcJ a bs.length)).2 a bs.length = bs
      have hOn : okK (writeGo F (ms k) a bs.length bs (pcJ a bs.length)).2 a false (pcJ a bs.length) := fun j hj => by
        obtain ⟨x, hx, _⟩ := hOk j hj
        have hp : a / 64 + j < 64 := by
          have := hx
          unfold look at this
          split at this
          · omega
          · cases this
        rw [look_in _ hp] at hx
        have ht := h3.there _ hp
        rw [hx] at ht
        obtain ⟨y, hy⟩ := Option.isSome_iff_exists.1 ht
        exact ⟨y, by rw [look_in _ hp]; exact hy, fun e => by cases e⟩
      refine ⟨hOn, ?_⟩
      have hrl := readK_len h3.ok h1 hOn (pcJ a bs.length) (Nat.le_refl _)
      rw [pcJ_whole] at hrl
      unfold readB
      apply List.ext_getElem?
      intro i
      by_cases hi : i < bs.length
      · rw [readK_get h3.ok h1 hOn _ (Nat.le_refl _) i (by rw [pcJ_whole]; exact hi), hby (a + i)]
        have hsome : ∃ o, byteP F (ms k) (a + i) = some o := by
          have hfk : frK a bs.length ((a + i) / 64 - a / 64) ≤ i := by unfold frK; split <;> omega
          obtain ⟨x, hx, _⟩ := hOk ((a + i) / 64 - a / 64) ((pcJ_iff _ _ _).1 (by omega))
          refine ⟨(F.b x.f.toNat).getD ((a + i) % 64) 0, ?_⟩
          unfold byteP
          rw [show (a + i) / 64 = a / 64 + ((a + i) / 64 - a / 64) by omega, hx]
        obtain ⟨o, ho⟩ := hsome
        rw [ho]
        show some (if a ≤ a + i ∧ a + i < a + bs.length then bs.getD (a + i - a) 0 else o) = _
        rw [if_pos (by omega), show a + i - a = i by omega, List.getD_eq_getElem?_getD, List.getElem?_eq_getElem hi]
        rfl
      · rw [List.getElem?_eq_none (by omega), List.getElem?_eq_none (by omega)]
  · rw [if_neg hO] at h0
    cases h0
theorem frameP_page (m : M) {p : Nat} (hp : p < 64) : frameP m (p * 64) = (match m p with | some x => (x.f, x.s) | none => (-1, false)) := by
  unfold frameP
  rw [show p * 64 / 64 = p by omega, look_in m hp]
  cases m p <;> rfl
/-- Is the page written to? -/
def inW (code : Int) (p a n : Nat) : Bool := decide (code = 0) && decide (a < p * 64 + 64) && decide (p * 64 < a + n)
/-- Does the law say that the page turns? -/
def turnsW (inn same : Bool) (mine : Int × Bool) (other : Int) : Bool := inn && (same || (mine.2 && decide (other = mine.1)))
/-- Which pages of which spaces are turned by a write. -/
theorem write_seen {F : Fs} {ms : Nat → M} {s k i : Nat} (h : GI F ms s) (hk : k < s) (hi : i < s) (a : Nat) {bs : List Int} (hl : bs.length ≤ 4096) (hlow : ∀ x ∈ bs, 0 ≤ x ∧ x ≤ 255) {p : Nat} (hp : p < 64) {tn : Bool}
    (ht : turnsW (inW (writeA F (ms k) a bs).1 p a bs.length) (decide (i = k)) (frameP (writeA F (ms k) a bs).2.2 (p * 64)) (frameP (updS ms k (writeA F (ms k) a bs).2.2 i) (p * 64)).1 = tn) :
    if tn then pageP (writeA F (ms k) a bs).2.1 (updS ms k (writeA F (ms k) a bs).2.2 i) p = pageP (writeA F (ms k) a bs).2.1 (writeA F (ms k) a bs).2.2 p
      else pageP (writeA F (ms k) a bs).2.1 (updS ms k (writeA F (ms k) a bs).2.2 i) p = pageP F (ms i) p := by
  have hG := h.writeA hk a hl hlow
  cases tn with
  | true =>
    rw [if_pos rfl]
    by_cases e : i = k
    · subst e; rw [updS_same]
    · rw [updS_other _ _ e] at ht ⊢
      unfold turnsW at ht
      rw [decide_eq_false e, Bool.false_or, Bool.and_eq_true, Bool.and_eq_true, decide_eq_true_eq] at ht
      obtain ⟨_, h1, h2⟩ := ht
      rw [frameP_page _ hp] at h1 h2
      rw [frameP_page _ hp] at h2
      cases hz : (writeA F (ms k) a bs).2.2 p with
      | none => rw [hz] at h1; cases h1
      | some z =>
        rw [hz] at h2
        obtain ⟨f, hf, _⟩ := hG.rng k p z hk hp (by rw [updS_same]; exact hz)
        cases hy : ms i p with
        | none =>
          rw [hy] at h2
          have h2 : (-1 : Int) = z.f := h2
          omega
        | some y =>
          rw [hy] at h2
          have h2 : y.f = z.f := h2
          unfold pageP
          rw [hy, hz]
          show (writeA F (ms k) a bs).2.1.b y.f.toNat = (writeA F (ms k) a bs).2.1.b z.f.toNat
          rw [h2]
  | false =>
    rw [if_neg (by decide)]
    unfold writeA at ht ⊢
    by_cases hO : okB (ms k) a true (pcJ a bs.length) = true
    · rw [if_pos hO] at ht ⊢
      by_cases hf : freeN F < (needK F (ms k) a (pcJ a bs.length) : Nat)
      · rw [if_pos hf]
        show pageP F (updS ms k (ms k) i) p = _
        rw [updS_self]
      · rw [if_neg hf] at ht ⊢
        have hOk := (okB_iff _ _ _ _).1 hO
        obtain ⟨h1, h2, h3⟩ := writeGo_all (bs := bs) (h.spOk hk) h.fok hl hOk (by omega) hlow _ (Nat.le_refl _)
        have hin : a / 64 ≤ p → p < a / 64 + pcJ a bs.length → inW 0 p a bs.length = true := fun g1 g2 => by
          unfold inW pcJ at *
          split at g2
          · omega
          · rw [decide_eq_true (show a < p * 64 + 64 by omega), decide_eq_true (show p * 64 < a + bs.length by omega)]; rfl
        show pageP (writeGo F (ms k) a bs.length bs (pcJ a bs.length)).1 (updS ms k (writeGo F (ms k) a bs.length bs (pcJ a bs.length)).2 i) p = _
        have ht : turnsW (inW 0 p a bs.length) (decide (i = k)) (frameP (writeGo F (ms k) a bs.length bs (pcJ a bs.length)).2 (p * 64)) (frameP (updS ms k (writeGo F (ms k) a bs.length bs (pcJ a bs.length)).2 i) (p * 64)).1 = false := ht
        by_cases e : i = k
        · subst e
          rw [updS_same]
          have hno : ¬ (a / 64 ≤ p ∧ p < a / 64 + pcJ a bs.length) := fun ⟨g1, g2⟩ => by
            unfold turnsW at ht
            rw [hin g1 g2, decide_eq_true rfl] at ht
            cases ht
          have hth := h3.there p hp
          unfold pageP
          cases hx : ms i p with
          | none =>
            rw [hx] at hth
            cases hy : (writeGo F (ms i) a bs.length bs (pcJ a bs.length)).2 p with
            | none => rfl
            | some y => rw [hy] at hth; cases hth
          | some x =>
            rw [hx] at hth
            obtain ⟨y, hy⟩ := Option.isSome_iff_exists.1 hth
            rw [hy]
            show (writeGo F (ms i) a bs.length bs (pcJ a bs.length)).1.b y.f.toNat = F.b x.f.toNat
            rw [h3.bytes p x y hp hx hy, if_neg hno]
        · rw [updS_other _ _ e] at ht ⊢
          refine pageP_kept fun y hy => ?_
          have hw := write_other (bs := bs) h hk hi e hl hOk (by omega) hlow _ (Nat.le_refl _)
          refine hw.else_ p y hp hy (fun x hx hs hxy g1 g2 => ?_)
          obtain ⟨z, hz, hzf⟩ := hw.same p x y hp hx hy hs hxy g1 g2
          have hzs := (h3.flags p x z hp hx hz).2
          unfold turnsW at ht
          rw [hin g1 g2, frameP_page _ hp, frameP_page _ hp, hz, hy] at ht
          have ht : (true && (decide (i = k) || (z.s && decide (y.f = z.f)))) = false := ht
          rw [hzs, hs, hzf, decide_eq_true rfl] at ht
          cases hd : decide (i = k) <;> rw [hd] at ht <;> cases ht
    · rw [if_neg hO]
      show pageP F (updS ms k (ms k) i) p = _
      rw [updS_self]
section
variable {w W W' : World} {fb lb cap : Nat} {F : Fs} {s : Nat} {sb bt : Nat → Nat} {q : Nat → Nat → Option Nat} {ms : Nat → M}
theorem asRead (h : AS w W fb lb cap F s sb bt q ms) {i : Nat} (hi : i < s) (a n : Nat) (ha : a < 4294967296) (hn : n ≤ 4096) :
    Calls Try.prog 20 #[.pointer (some ⟨sb i, 0, none⟩), .int .u32 a, .int .i64 n] W fun e W' => ∃ (v : Value) (c : Int), e = .returned (.tuple #[v, .int .i64 c]) ∧ (okK (ms i) a false (pcJ a n) → c = 0 ∧ W'.ownsRow W.heap.size 5 1 v n ((readB F (ms i) a n).map fun x => Value.int .u8 x)) ∧ (∃ A l k, v = .slice A l k) ∧ Below W.heap.size W W' := by
  by_cases hO : okK (ms i) a false (pcJ a n)
  · refine (spRead_yes (h.fs hi) (h.ok hi) a n ha hn hO).mono ?_
    rintro e W' ⟨v, rfl, hrow, hb⟩
    refine ⟨v, 0, rfl, fun _ => ⟨rfl, hrow⟩, ?_, hb⟩
    rcases hrow.2 with ⟨rfl, _⟩ | ⟨_, _, _, rfl, _⟩
    · exact ⟨_, _, _, rfl⟩
    · exact ⟨_, _, _, rfl⟩
  · exact (spRead_no (h.fs hi) (h.ok hi) a n ha hn hO).mono fun e W' ⟨h1, h2⟩ => ⟨_, 14, h1, fun h => absurd h hO, ⟨_, _, _, rfl⟩, h2⟩
theorem asPage (h : AS w W fb lb cap F s sb bt q ms) {i : Nat} (hi : i < s) (p : Nat) (hp : p < 64) :
    Calls Try.prog 25 #[.pointer (some ⟨sb i, 0, none⟩), .int .i64 (p : Int)] W fun e w' => ∃ v, e = .returned v ∧ w'.ownsRow W.heap.size 5 1 v (pageP F (ms i) p).length ((pageP F (ms i) p).map fun x => Value.int .u8 x) ∧ Below W.heap.size W w' := spPage_any (h.fs hi) (h.ok hi) p hp
theorem asFrame (h : AS w W fb lb cap F s sb bt q ms) {i : Nat} (hi : i < s) (a : Nat) (ha : a < 4096) :
    Calls Try.prog 22 #[.pointer (some ⟨sb i, 0, none⟩), .int .u32 a] W fun e w' => e = .returned (.tuple #[.int .i64 (frameP (ms i) a).1, .bool (frameP (ms i) a).2]) ∧ Below W.heap.size W w' := spFrame_any (h.fs hi) a ha
theorem AS.but (h : AS w W fb lb cap F s sb bt q ms) {S : Nat → Prop} (hb : But S W W') (hS : ∀ k, S k → w.heap.size ≤ k ∧ ∃ (t : TypeId) (cs : Array Value), Blk W k t cs ∧ t ≠ 69 ∧ t ≠ 99 ∧ t ≠ 76 ∧ t ≠ 74 ∧ t ≠ 105) : AS w W' fb lb cap F s sb bt q ms := by
  obtain ⟨more, hl⟩ := h.f.l
  have hn : ∀ {k : Nat} {t : TypeId} {cs : Array Value}, Blk W k t cs → (t = 69 ∨ t = 99 ∨ t = 76 ∨ t = 74 ∨ t = 105) → ¬ S k := fun {k t cs} hk ht hs => by
    obtain ⟨_, t', cs', hk', n1, n2, n3, n4, n5⟩ := hS k hs
    refine hk.ne_ hk' (fun e => ?_) rfl
    subst e
    rcases ht with e | e | e | e | e
    · exact n1 e
    · exact n2 e
    · exact n3 e
    · exact n4 e
    · exact n5 e
  refine ⟨h.f.but hb (hn h.f.p (.inl rfl)) (hn hl (.inr (.inl rfl))), fun i hi => ?_, h.ds, h.lo.trans (hb.below (fun k hk => (hS k hk).1) h.lo.size), h.ge, h.gi⟩
  have hs := h.sp i hi
  refine ⟨hs.p.but hb (hn hs.p (.inr (.inr (.inl rfl)))), hs.t.but hb (fun k hk => ?_), hs.ne⟩
  obtain ⟨t, cs, ht, hk'⟩ := own_type hs.t hk
  exact hn hk' (.inr (.inr (.inr ht)))
theorem But.of_grown {row : Option Nat} (h : W.grownBy W' row) : But (fun k => row = some k) W W' := ⟨h.os, h.tape, h.output, h.size, fun k hk hn => h.block k hk (fun e => hn e.symm)⟩
theorem ownsRow_keep {base : Nat} {e : TypeId} {sz : Nat} {v : Value} {n : Nat} {xs : List Value} (h : W.ownsRow base e sz v n xs) (hk : KeepT W W') (h1 : e ≠ 99) (h2 : e ≠ 74) (h3 : e ≠ 105) : W'.ownsRow base e sz v n xs := by
  refine ⟨h.1, ?_⟩
  rcases h.2 with h0 | ⟨g, cp, cur, hv, hb, hg, h4, h5, h6, h7⟩
  · exact .inl h0
  · exact .inr ⟨g, cp, cur, hv, hb, hk.2 g e cur h1 h2 h3 hg, h4, h5, h6, h7⟩
end
end Go.Proofs.Ytolejpbdbjkndaa
