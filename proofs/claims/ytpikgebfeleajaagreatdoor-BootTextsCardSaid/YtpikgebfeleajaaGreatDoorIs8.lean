/-
  What a program that is assembled stands on: its words, its labels, its jumps. Condition: none.
-/
import Derived.Maps.OwnSet
import Derived.Maps.AppendAt
import Derived.Deep.AppendLies
import Derived.Test.YtpikgebfeleajaaGreatDoorRowMem
import Derived.Test.YtpikgebfeleajaaGreatDoorIs7
namespace Go.Proofs.YtpikgebfeleajaaGreatDoor.I
open Go.RowKit Go.Shelf Go.WideMaps
set_option linter.unusedVariables false
set_option linter.unusedSimpArgs false
attribute [local go_sem] Oper.semAt_some

/-! ## a map from words to numbers -/
theorem keyS : Maps.Keyed Tryz.prog 9 := Maps.string_keyed Tryz.underlying9
theorem zeroI (w : World) : (zeroValue 3).run Tryz.prog w = .ok (.int .i64 0) w := by kernel_rfl
def MapAt (W : World) (mb : Nat) (labs : List (List UInt8 × Int)) : Prop :=
  ∃ D : DataW Unit, W.ownsMap Tryz.prog 9 (plainElem Tryz.prog 3) mb labs.length D ∧ ∀ k, Maps.has D (.string k) = (labO labs k).isSome ∧ ∀ v, labO labs k = some v → D.atKey (.string k) (.lit (.int .i64 0)) = .lit (.int .i64 v)
section
variable {W W' : World} {mb : Nat} {labs : List (List UInt8 × Int)}
theorem MapAt.lt (h : MapAt W mb labs) : mb < W.heap.size := h.elim fun _ x => x.1.lt
theorem MapAt.kept {row : Option Nat} (h : MapAt W mb labs) (hg : W.grownBy W' row) (hne : some mb ≠ row) : MapAt W' mb labs := by
  obtain ⟨D, h1, h2⟩ := h
  exact ⟨D, h1.kept hg hne, h2⟩
theorem MapAt.below (h : MapAt W mb labs) (hb : Below W.heap.size W W') : MapAt W' mb labs := h.kept (grownBy_below hb) (by simp)
theorem MapAt.made (w : World) : MapAt (w.alloc (.map #[] 0)) w.heap.size [] :=
  ⟨_, World.ownsMap_made w _ _ _, fun k => ⟨rfl, fun v h => by cases h⟩⟩
/-- What stands at a word: a number, and whether there is one. -/
theorem MapAt.look (h : MapAt W mb labs) (s : ByteArray) (hs : s.size ≤ maxLen) :
    ∃ c : Int, (Instr.lookup 96 (.map (some mb)) (.string s) true).run Tryz.prog W = .ok (.tuple #[.int .i64 c, .bool (labO labs s.data.toList).isSome]) W ∧ ∀ v, labO labs s.data.toList = some v → c = v := by
  obtain ⟨D, h1, h2⟩ := h
  obtain ⟨v, ps, hrun, hv⟩ := h1.look_ok keyS Tryz.underlying96 (zeroI W) (plainElem_int Tryz.underlying3 (q := .i64) (a := 0) (by decide)) (keyOf_string_mk Tryz.underlying9 hs)
  obtain ⟨c, rfl, hc, _⟩ := plainElem_int_inv Tryz.underlying3 hv
  refine ⟨c, by rw [hrun, (h2 _).1], fun u hu => ?_⟩
  have h3 := (h2 _).2 u hu
  have h4 : D.atKey (.string s.data.toList) (.lit (.int .i64 0)) = .lit (.int .i64 c) := congrArg Prod.fst hc
  rw [h3] at h4
  simp only [DataW.lit.injEq, Lit.int.injEq, true_and] at h4
  exact h4.symm
theorem labO_cons (k n : List UInt8) (v : Int) (r : List (List UInt8 × Int)) : labO ((k, v) :: r) n = if k = n then some v else labO r n := rfl
end
/-! ## what the rest of memory does -/
/-- Whatever lies, lies, but some blocks, and rows of cells from C on. -/
structure KqS (S : Nat → Prop) (C : Nat) (W W' : World) : Prop where
  size : W.heap.size ≤ W'.heap.size
  os : W'.os = W.os
  tape : W'.tape = W.tape
  output : W'.output = W.output
  block : ∀ k, k < W.heap.size → ¬ S k → (C ≤ k → ∃ o, W.heap[k]? = some o ∧ o.isCells = false) → W'.heap[k]? = W.heap[k]?
section
variable {S S' : Nat → Prop} {C : Nat} {W X Y : World}
theorem KqS.refl (S : Nat → Prop) (C : Nat) (W : World) : KqS S C W W := ⟨Nat.le_refl _, rfl, rfl, rfl, fun _ _ _ _ => rfl⟩
theorem KqS.trans (h : KqS S C W X) (k : KqS S C X Y) : KqS S C W Y :=
  ⟨Nat.le_trans h.size k.size, k.os.trans h.os, k.tape.trans h.tape, k.output.trans h.output, fun i hi hs hc => by
    have e := h.block i hi hs hc
    exact (k.block i (Nat.lt_of_lt_of_le hi h.size) hs (fun h1 => by rw [e]; exact hc h1)).trans e⟩
theorem KqS.mono (h : KqS S C W X) (hS : ∀ k, S k → S' k) : KqS S' C W X := ⟨h.size, h.os, h.tape, h.output, fun k hk hs hc => h.block k hk (fun h1 => hs (hS k h1)) hc⟩
theorem KqS.below (h : KqS S C W X) (hb : Below X.heap.size X Y) : KqS S C W Y :=
  ⟨Nat.le_trans h.size hb.size, hb.os.trans h.os, hb.tape.trans h.tape, hb.output.trans h.output, fun k hk hs hc => (hb.block k (Nat.lt_of_lt_of_le hk h.size)).trans (h.block k hk hs hc)⟩
theorem KqS.set_ (h : KqS S C W X) {p : Addr} (hp : S p.block ∨ W.heap.size ≤ p.block) (u : Value) : KqS S C W (X.setCell p u) :=
  ⟨by simpa using h.size, h.os, h.tape, h.output, fun k hk hs hc => (Below.heap_setCell X p u k (fun e => by subst e; rcases hp with hp | hp; exact hs hp; omega)).trans (h.block k hk hs hc)⟩
theorem KqS.grown {row : Option Nat} (h : KqS S C W X) (hg : X.grownBy Y row) (hr : ∀ r, row = some r → S r ∨ W.heap.size ≤ r ∨ (C ≤ r ∧ ∃ o, W.heap[r]? = some o ∧ o.isCells = true)) : KqS S C W Y :=
  ⟨Nat.le_trans h.size hg.size, hg.os.trans h.os, hg.tape.trans h.tape, hg.output.trans h.output, fun k hk hs hc => by
    refine (hg.block k (Nat.lt_of_lt_of_le hk h.size) (fun e => ?_)).trans (h.block k hk hs hc)
    rcases hr k e.symm with h1 | h1 | ⟨hC, o, ho, hoc⟩
    · exact hs h1
    · omega
    · obtain ⟨o', ho', hoc'⟩ := hc hC
      rw [ho] at ho'
      injection ho' with ho'
      rw [← ho', hoc] at hoc'
      cases hoc'⟩
theorem KqS.blk {g : Nat} {t : TypeId} {cs : Array Value} (h : KqS S C W X) (hb : Blk W g t cs) (hs : ¬ S g) (hg : g < C) : Blk X g t cs := (h.block g hb.lt hs (fun hc => by omega)).trans hb
theorem KqS.bel {B : Nat} (h : KqS S C W X) (hS : ∀ k, S k → B ≤ k) (hC : B ≤ C) (hB : B ≤ W.heap.size) : Below B W X :=
  ⟨h.os, h.tape, h.output, h.size, fun k hk => h.block k (by omega) (fun hs => by have := hS k hs; omega) (fun hc => by omega)⟩
theorem KqS.keeps {B : Nat} (h : KqS S C W X) (hS : ∀ k, S k → k < B) : KeepsFrom B W X :=
  ⟨h.size, fun k o hk ho hoc => (h.block k (Array.getElem?_eq_some_iff.1 ho).1 (fun hs => by have := hS k hs; omega) (fun _ => ⟨o, ho, hoc⟩)).trans ho⟩
theorem KqS.kpI {B : Nat} (h : KqS S C W X) (hS : ∀ k, S k → k < B) (hC : C ≤ W.heap.size) : KpI B C W X :=
  ⟨h.keeps hS, fun k hk hk2 => h.block k (by omega) (fun hs => by have := hS k hs; omega) (fun hc => by omega)⟩
end
/-! ## rows of the call's own -/
theorem own_form {w : World} {base : Nat} {t : TypeId} {s : Nat} {v : Value} {n : Nat} {cs : List Value} (h : w.ownsRow base t s v n cs) : ∃ A c, v = .slice A n c := by
  rcases h.2 with ⟨rfl, rfl⟩ | ⟨g, cap, cur, rfl, _⟩
  · exact ⟨_, _, rfl⟩
  · exact ⟨_, _, rfl⟩
theorem own_below {w w' : World} {base : Nat} {t : TypeId} {s : Nat} {v : Value} {n : Nat} {cs : List Value} (h : w.ownsRow base t s v n cs) (hb : Below w.heap.size w w') : w'.ownsRow base t s v n cs :=
  h.kept (grownBy_below hb) (by cases v.ownBlock <;> simp)
theorem own_set {w : World} {base : Nat} {t : TypeId} {s : Nat} {v : Value} {n : Nat} {cs : List Value} {p : Addr} (h : w.ownsRow base t s v n cs) (hp : p.block < base) (u : Value) : (w.setCell p u).ownsRow base t s v n cs := by
  have hg : w.grownBy (w.setCell p u) (some p.block) := ⟨rfl, rfl, rfl, by simp [World.setCell], fun k hk hkn => Below.heap_setCell w p u k (fun e => hkn (by rw [e]))⟩
  refine h.kept hg ?_
  rcases h.2 with ⟨rfl, _⟩ | ⟨g, cap, cur, rfl, hb, _⟩
  · exact .inl rfl
  · refine .inr (fun e => ?_)
    have e' : p.block = g := by simpa [Value.ownBlock] using e.symm
    omega
theorem own_row {w : World} {base : Nat} {t : TypeId} {s : Nat} {v : Value} {n : Nat} {cs : List Value} (h : w.ownsRow base t s v n cs) : ∀ r, v.ownBlock = some r → base ≤ r ∧ ∃ o, w.heap[r]? = some o ∧ o.isCells = true := by
  rcases h.2 with ⟨rfl, _⟩ | ⟨g, cap, cur, rfl, hb, hgb, _⟩
  · intro r e
    simp [Value.ownBlock] at e
  · intro r e
    have e' : g = r := by simpa [Value.ownBlock] using e
    subst e'
    exact ⟨hb, _, hgb, rfl⟩
theorem own_lower {w : World} {b b' : Nat} {t : TypeId} {s : Nat} {v : Value} {n : Nat} {cs : List Value} (h : w.ownsRow b t s v n cs) (hb : b' ≤ b) : w.ownsRow b' t s v n cs := by
  refine ⟨h.1, ?_⟩
  rcases h.2 with h2 | ⟨g, cap, cur, h3, h4, h5⟩
  · exact .inl h2
  · exact .inr ⟨g, cap, cur, h3, Nat.le_trans hb h4, h5⟩

/-! ## the program -/
def JmpS.cells (j : JmpS) : List Value := [.int .i64 j.pl, .int .i64 j.x.op, .int .i64 j.x.a, .int .i64 j.x.b, .int .i64 j.x.imm, .string ⟨j.lab.toArray⟩, .int .i64 j.line]
def wVals (ws : List Int) : List Value := ws.map (Value.int .u32)
structure PgAt (W : World) (base pb mb : Nat) (p : PgS) (v1 v2 : Value) : Prop where
  blk : Blk W pb 99 #[v1, .map (some mb), v2]
  words : W.ownsRow base 41 1 v1 p.words.length (wVals p.words)
  labs : MapAt W mb p.labs
  jumps : W.ownsRow base 104 7 v2 p.jumps.length (p.jumps.flatMap JmpS.cells)
  apart : ∀ r, v1.ownBlock = some r → v2.ownBlock ≠ some r
  lp : pb < base
  lm : mb < base
  lb : base ≤ W.heap.size
section
variable {W W' : World} {base pb mb : Nat} {p : PgS} {v1 v2 : Value}
theorem PgAt.below (h : PgAt W base pb mb p v1 v2) (hb : Below W.heap.size W W') : PgAt W' base pb mb p v1 v2 :=
  ⟨h.blk.below hb h.blk.lt, own_below h.words hb, h.labs.below hb, own_below h.jumps hb, h.apart, h.lp, h.lm, Nat.le_trans h.lb hb.size⟩
theorem PgAt.ne (h : PgAt W base pb mb p v1 v2) : pb ≠ mb := by
  intro e
  obtain ⟨D, ⟨es, clock, hb, _⟩, _⟩ := h.labs
  have h1 := h.blk
  unfold Blk at h1
  rw [e, hb] at h1
  cases h1
/-- One label more. -/
theorem PgAt.label (h : PgAt W base pb mb p v1 v2) (s : ByteArray) (hs : s.size ≤ maxLen) (hw : p.words.length ≤ 1000000) (hl : p.labs.length < maxLen) :
    ∃ W', (Instr.mapUpdate 96 (.map (some mb)) (.string s) (.int .i64 p.words.length)).run Tryz.prog W = .ok () W' ∧ PgAt W' base pb mb ⟨p.words, (s.data.toList, (p.words.length : Int)) :: p.labs, p.jumps⟩ v1 v2 ∧ W.grownBy W' (some mb) := by
  obtain ⟨D, h1, h2⟩ := h.labs
  have hwf : (Lit.int .i64 (p.words.length : Int)).wf = true := WalkArith.wf_i64 (by omega)
  obtain ⟨W', hrun, hown, hg⟩ := h1.update keyS Tryz.underlying96 hl (keyOf_string_mk Tryz.underlying9 hs) (plainElem_int Tryz.underlying3 hwf)
  have hnm : ∀ (r : Nat), base ≤ r → some r ≠ some mb := fun r hr e => by injection e with e; have := h.lm; omega
  have hw1 : v1.ownBlock = none ∨ v1.ownBlock ≠ some mb := by
    cases hv : v1.ownBlock with
    | none => exact .inl rfl
    | some r => exact .inr (hnm r (own_row h.words r hv).1)
  have hw2 : v2.ownBlock = none ∨ v2.ownBlock ≠ some mb := by
    cases hv : v2.ownBlock with
    | none => exact .inl rfl
    | some r => exact .inr (hnm r (own_row h.jumps r hv).1)
  refine ⟨W', hrun, ⟨h.blk.grown hg (fun e => h.ne (by injection e)), h.words.kept hg hw1, ⟨_, hown, fun k => ?_⟩, h.jumps.kept hg hw2, h.apart, h.lp, h.lm, Nat.le_trans h.lb hg.size⟩, hg⟩
  have hI := h1.isMap
  show _ = (labO ((s.data.toList, (p.words.length : Int)) :: p.labs) k).isSome ∧ ∀ v, labO ((s.data.toList, (p.words.length : Int)) :: p.labs) k = some v → _
  rw [labO_cons]
  by_cases hk : s.data.toList = k
  · subst hk
    rw [if_pos rfl, Maps.has_put_same hI (by trivial), Maps.atKey_put_same hI (by trivial)]
    exact ⟨by simp, fun v hv => by simp only [Option.some.injEq] at hv; rw [hv]⟩
  · have hk' : (Lit.string k) ≠ Lit.string s.data.toList := fun e => by simp only [Lit.string.injEq] at e; exact hk e.symm
    rw [if_neg hk, Maps.has_put_other hk', Maps.atKey_put_other hk']
    exact h2 k
end
end Go.Proofs.YtpikgebfeleajaaGreatDoor.I
