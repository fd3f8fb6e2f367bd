/-
  Drop of spaces. Condition: the space and the frames lie in blocks of their own.
-/
import Derived.Test.YtlecfdchmcghlaaSpE
import Derived.Test.YtlecfdchmcghlaaSpD
namespace Go.Proofs.Ytlecfdchmcghlaa
section
open Go.RowKit Go.Shelf
set_option linter.unusedVariables false
set_option linter.unusedSimpArgs false
attribute [local go_sem] Oper.semAt_some

/-- The bytes of a page; none: it is not mapped. -/
def pageP (F : Fs) (m : M) (p : Nat) : List Int := match m p with
  | some x => F.b x.f.toNat
  | none => []
theorem pcJ_page (p : Nat) : pcJ (p * 64) 64 = 1 := by
  unfold pcJ
  rw [if_neg (by decide)]
  omega
theorem okK_page (m : M) {p : Nat} (hp : p < 64) (wr : Bool) : okK m (p * 64) wr (pcJ (p * 64) 64) ↔ ∃ x, m p = some x ∧ (wr = true → x.w = true) := by
  rw [pcJ_page]
  have e : p * 64 / 64 = p := by omega
  constructor
  · intro h
    have := h 0 (by omega)
    rw [e, Nat.add_zero, look_in m hp] at this
    exact this
  · intro h j hj
    have : j = 0 := by omega
    subst this
    rw [e, Nat.add_zero, look_in m hp]
    exact h
theorem readB_page {F : Fs} {m : M} (hF : F.Ok) {p : Nat} (hp : p < 64) {x : E} (hx : m p = some x) : readB F m (p * 64) 64 = F.b x.f.toNat := by
  unfold readB
  rw [pcJ_page, readK, readK]
  have e : p * 64 / 64 + 0 = p := by omega
  rw [e, look_in m hp, hx, List.nil_append]
  have h1 : (pcK (p * 64) 64 0).off = 0 := by
    show (p * 64 + frK (p * 64) 64 0) % 64 = 0
    rw [frK_zero]; omega
  have h2 : (pcK (p * 64) 64 0).n = 64 := by
    show min (64 - frK (p * 64) 64 0) (64 - (p * 64 + frK (p * 64) 64 0) % 64) = 64
    rw [frK_zero]; omega
  show partB F x.f.toNat (pcK (p * 64) 64 0).off (pcK (p * 64) 64 0).n = _
  rw [h1, h2]
  unfold partB
  rw [List.drop_zero, List.take_of_length_le (by rw [hF.len]; exact Nat.le_refl _)]
section
variable {w : World} {fb lb cap : Nat} {F : Fs} {sb bt : Nat} {q : Nat → Option Nat} {m : M}
set_option maxRecDepth 100000 in
set_option maxHeartbeats 1000000 in
theorem spPage_any (h : FS w fb lb cap F sb bt q m) (hok : SpOk F m) (p : Nat) (hp : p < 64) :
    Calls Try.prog 52 #[.pointer (some ⟨sb, 0, none⟩), .int .i64 (p : Int)] w fun e w' => ∃ v, e = .returned v ∧ w'.ownsRow w.heap.size 5 1 v (pageP F m p).length ((pageP F m p).map fun x => Value.int .u8 x) ∧ Below w.heap.size w w' := by
  have g1 : ¬ (p : Int) < 0 := by omega
  have g2 : ¬ (64 : Int) ≤ (p : Int) := by omega
  have g3 : (p : Int) < 64 := by omega
  cases hx : m p with
  | none =>
    have hb : pageP F m p = [] := by unfold pageP; rw [hx]
    rw [hb]
    have hr := spRead_no h hok (p * 64) 64 (by omega) (by omega) (fun e => by
      obtain ⟨x, h1, _⟩ := (okK_page m hp false).1 e
      rw [hx] at h1
      cases h1)
    rw [show ((p * 64 : Nat) : Int) = (p : Int) * 64 by omega] at hr
    have HR := Lib.hid hr
    clear h hok hr hx hb
    go_enter Try.func52, Try.ntmps52
    go_wp2_with (fail)
    refine HR.out.mono ?_
    rintro e W1 ⟨rfl, hb1⟩
    have HB1 := Lib.hid hb1
    clear hb1
    go_wp2
    go_ret
    exact ⟨_, rfl, World.ownsRow_nil _ _ _ _, HB1.out⟩
  | some x =>
    have hb : pageP F m p = F.b x.f.toNat := by unfold pageP; rw [hx]
    rw [hb]
    have hr := spRead_yes h hok (p * 64) 64 (by omega) (by omega) ((okK_page m hp false).2 ⟨x, hx, fun e => by cases e⟩)
    rw [readB_page h.f.ok hp hx, show ((p * 64 : Nat) : Int) = (p : Int) * 64 by omega] at hr
    have hl := h.f.ok.len x.f.toNat
    have HR := Lib.hid hr
    rw [hl]
    clear h hok hr hx hb hl
    generalize F.b x.f.toNat = bs at *
    go_enter Try.func52, Try.ntmps52
    go_wp2_with (fail)
    refine HR.out.mono ?_
    rintro e W1 ⟨v, rfl, hrow, hb1⟩
    obtain ⟨g, c, cur, rfl, _, _, _⟩ := row_open hrow (by decide)
    have HB1 := Lib.hid hb1
    have HR1 := Lib.hid hrow
    clear hb1 hrow
    go_wp2
    go_ret
    exact ⟨_, rfl, HR1.out, HB1.out⟩
end
end
end Go.Proofs.Ytlecfdchmcghlaa
namespace Go.Proofs.Ytlecfdchmcghlaa
section
open Go.RowKit Go.Shelf
set_option linter.unusedVariables false
set_option linter.unusedSimpArgs false
attribute [local go_sem] Oper.semAt_some

def dropGo (F : Fs) (m : M) (l : List (Nat × E)) : Nat → Fs × M
  | 0 => (F, m)
  | k + 1 => match l[k]? with
    | some y => (dropF (dropGo F m l k).1 y.2.f, upd (dropGo F m l k).2 y.1 none)
    | none => dropGo F m l k
theorem dropGo_succ {F : Fs} {m : M} {l : List (Nat × E)} {k : Nat} {y : Nat × E} (h : l[k]? = some y) : dropGo F m l (k + 1) = (dropF (dropGo F m l k).1 y.2.f, upd (dropGo F m l k).2 y.1 none) := by
  rw [dropGo, h]
section
variable {w : World} {fb lb cap : Nat} {F : Fs} {sb bt : Nat} {q : Nat → Option Nat} {m : M}
end
end
end Go.Proofs.Ytlecfdchmcghlaa
