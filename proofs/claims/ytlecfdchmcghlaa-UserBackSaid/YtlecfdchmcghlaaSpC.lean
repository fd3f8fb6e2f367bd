/-
  Byte, SetByte, Frame, List of spaces; Write outside a fence. Condition: the space and the frames lie in blocks of their own; each page's frame is used, and of that page alone within the space.
-/
import Derived.Test.YtlecfdchmcghlaaSpB
namespace Go.Proofs.Ytlecfdchmcghlaa
open Go.RowKit Go.Shelf
set_option linter.unusedVariables false
set_option linter.unusedSimpArgs false
attribute [local go_sem] Oper.semAt_some

section
variable {w : World} {fb lb cap : Nat} {F : Fs} {sb bt : Nat} {q : Nat → Option Nat} {m : M}
/-- What Write leaves. -/
def WOut (w w' : World) (fb lb cap : Nat) (F : Fs) (sb bt : Nat) (q : Nat → Option Nat) (m : M) : Prop := FS w' fb lb cap F sb bt q m ∧ But (WS lb bt q) w w'
theorem spWrite_no (h : FS w fb lb cap F sb bt q m) (hok : SpOk F m) (a k : Nat) (ad : Option Addr) (c : Nat) (ha : a < 4294967296) (hk : k ≤ 4096) (hO : ¬ okK m a true (pcJ a k)) :
    Calls Try.prog 21 #[.pointer (some ⟨sb, 0, none⟩), .int .u32 a, .slice ad k c] w fun e w' => e = .returned (.int .i64 14) ∧ Below w.heap.size w w' :=
  callsIn_wide.1 (spWrite_no_in 14 (by omega) h hok a k ad c ha hk hO)
theorem spWrite_few (h : FS w fb lb cap F sb bt q m) (hok : SpOk F m) (a k : Nat) (ad : Option Addr) (c : Nat) (ha : a < 4294967296) (hk : k ≤ 4096) (hO : okK m a true (pcJ a k)) (hf : freeN F < (needK F m a (pcJ a k) : Nat)) :
    Calls Try.prog 21 #[.pointer (some ⟨sb, 0, none⟩), .int .u32 a, .slice ad k c] w fun e w' => e = .returned (.int .i64 12) ∧ Below w.heap.size w w' :=
  callsIn_wide.1 (spWrite_few_in 14 (by omega) h hok a k ad c ha hk hO hf)
theorem spWrite_yes (h : FS w fb lb cap F sb bt q m) (hok : SpOk F m) (a k : Nat) (ad : Option Addr) (c : Nat) (ha : a < 4294967296) (hk : k ≤ 4096) (hO : okK m a true (pcJ a k)) (hf : (needK F m a (pcJ a k) : Nat) ≤ freeN F) (bs : List Int) (hbl : bs.length = k) (hlow : ∀ x ∈ bs, 0 ≤ x ∧ x ≤ 255) (hsrc : 0 < k → ∃ g o : Nat, ad = some ⟨g, o, none⟩ ∧ g < w.heap.size ∧ ¬ WS lb bt q g ∧ ∀ (j : Nat) (v : Value), (bs.map fun x => Value.int .u8 x)[j]? = some v → w.cell? ⟨g, o + j, none⟩ = some v) (hcap : k ≤ c) :
    Calls Try.prog 21 #[.pointer (some ⟨sb, 0, none⟩), .int .u32 a, .slice ad k c] w fun e w' => e = .returned (.int .i64 0) ∧ WOut w w' fb lb cap (writeGo F m a k bs (pcJ a k)).1 sb bt q (writeGo F m a k bs (pcJ a k)).2 :=
  (callsIn_wide.1 (spWrite_in 14 (by omega) h hok a k ad c ha hk hO hf bs hbl hlow hsrc hcap)).mono fun e w' ⟨h1, h2, h3⟩ => ⟨h1, h2, h3⟩
theorem pcJ_one (a : Nat) : pcJ a 1 = 1 := by
  unfold pcJ
  rw [if_neg (by decide)]
  omega
theorem okK_one (m : M) (a : Nat) (wr : Bool) : okK m a wr (pcJ a 1) ↔ ∃ x, look m ((a / 64 : Nat) : Int) = some x ∧ (wr = true → x.w = true) := by
  rw [pcJ_one]
  constructor
  · intro h
    exact h 0 (by omega)
  · intro h j hj
    have : j = 0 := by omega
    subst this
    exact h
/-- The byte at an address, if its page is mapped. -/
def byteP (F : Fs) (m : M) (a : Nat) : Option Int := match look m ((a / 64 : Nat) : Int) with
  | some x => some ((F.b x.f.toNat).getD (a % 64) 0)
  | none => none
theorem readB_one (hF : F.Ok) {a : Nat} {x : E} (hx : look m ((a / 64 : Nat) : Int) = some x) : readB F m a 1 = [(F.b x.f.toNat).getD (a % 64) 0] := by
  unfold readB
  rw [pcJ_one, readK, readK]
  show [] ++ (match look m ((a / 64 : Nat) : Int) with | some x => partB F x.f.toNat (pcK a 1 0).off (pcK a 1 0).n | none => []) = _
  rw [hx]
  have h1 : (pcK a 1 0).off = a % 64 := rfl
  have h2 : (pcK a 1 0).n = 1 := by
    show min (1 - frK a 1 0) (64 - (a + frK a 1 0) % 64) = 1
    unfold frK
    rw [if_pos rfl]
    omega
  show [] ++ partB F x.f.toNat (pcK a 1 0).off (pcK a 1 0).n = _
  rw [h1, h2, List.nil_append]
  unfold partB
  have hl := hF.len x.f.toNat
  rw [List.drop_eq_getElem_cons (show a % 64 < (F.b x.f.toNat).length by omega), List.take_succ_cons, List.take_zero, List.getD_eq_getElem?_getD, List.getElem?_eq_getElem (show a % 64 < (F.b x.f.toNat).length by omega)]
  rfl
set_option maxRecDepth 100000 in
set_option maxHeartbeats 2000000 in
theorem spByte_any (h : FS w fb lb cap F sb bt q m) (hok : SpOk F m) (a : Nat) (ha : a < 4294967296) :
    Calls Try.prog 18 #[.pointer (some ⟨sb, 0, none⟩), .int .u32 a] w fun e w' => e = .returned (.tuple #[.int .u8 ((byteP F m a).getD 0), .bool (byteP F m a).isSome]) ∧ Below w.heap.size w w' := by
  cases hx : look m ((a / 64 : Nat) : Int) with
  | none =>
    have hb : byteP F m a = none := by unfold byteP; rw [hx]
    rw [hb]
    have hno : ¬ okK m a false (pcJ a 1) := fun e => by
      obtain ⟨x, h1, _⟩ := (okK_one m a false).1 e
      rw [hx] at h1
      cases h1
    have HR := Lib.hid (spRead_no h hok a 1 ha (by omega) hno)
    clear h hok hb hno hx
    go_enter Try.func18, Try.ntmps18
    go_wp2_with (fail)
    refine HR.out.mono ?_
    rintro e W1 ⟨rfl, hb1⟩
    go_wp2
    go_ret2
    exact ⟨rfl, hb1⟩
  | some x =>
    have hb : byteP F m a = some ((F.b x.f.toNat).getD (a % 64) 0) := by unfold byteP; rw [hx]
    rw [hb]
    have hyes : okK m a false (pcJ a 1) := (okK_one m a false).2 ⟨x, hx, fun e => by cases e⟩
    have hr := spRead_yes h hok a 1 ha (by omega) hyes
    rw [readB_one h.f.ok hx] at hr
    have HR := Lib.hid hr
    clear h hok hb hyes hx hr
    generalize (F.b x.f.toNat).getD (a % 64) 0 = v at *
    go_enter Try.func18, Try.ntmps18
    go_wp2_with (fail)
    refine HR.out.mono ?_
    rintro e W1 ⟨u, rfl, hrow, hb1⟩
    obtain ⟨g, c, cur, rfl, hg, hbk, hcur⟩ := row_open hrow (by decide)
    have c0 : W1.cell? ⟨g, 0, none⟩ = some (.int .u8 v) := by rw [hbk.cell]; exact hcur 0 _ rfl
    have hl := hbk.lt
    clear hbk hcur hrow
    go_wp2
    go_ret2
    exact ⟨rfl, hb1⟩
/-- The frame of an address, and whether it is shared. -/
def frameP (m : M) (a : Nat) : Int × Bool := match look m ((a / 64 : Nat) : Int) with
  | some x => (x.f, x.s)
  | none => (-1, false)
set_option maxRecDepth 100000 in
theorem spList_any (h : FS w fb lb cap F sb bt q m) :
    Calls Try.prog 65 #[.pointer (some ⟨sb, 0, none⟩)] w fun e W' => ∃ v, e = .returned v ∧ W'.ownsRow w.heap.size 75 6 v (list m).length ((list m).flatMap mapCells) ∧ (v = .slice none 0 0 ↔ list m = []) ∧ Below w.heap.size w W' := by
  have HN := Lib.hid (spNone_any h.s)
  have HL := Lib.hid (list_any h.s.t)
  obtain ⟨c0, c1, hlt⟩ := h.s.cells
  clear h
  go_enter Try.func65, Try.ntmps65
  go_wp2_with (fail)
  refine HN.out.mono ?_
  rintro e _ ⟨rfl, rfl⟩
  go_wp2_with (fail)
  refine HL.out.mono ?_
  rintro e W1 ⟨v, rfl, h1, h2, h3⟩
  have H1 := Lib.hid h1
  have H2 := Lib.hid h2
  have H3 := Lib.hid h3
  clear h1 h2 h3
  go_wp2
  go_ret
  exact ⟨v, rfl, H1.out, H2.out, H3.out⟩
end
end Go.Proofs.Ytlecfdchmcghlaa
