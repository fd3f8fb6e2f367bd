/-
  Map, Unmap, Write of spaces, whatever is asked. Condition: the space and the frames lie in blocks of their own; each page's frame is used, and of that page alone within the space.
-/
import Derived.Test.YtlecfdchmcghlaaSpG
namespace Go.Proofs.Ytlecfdchmcghlaa
open Go.RowKit Go.Shelf
set_option linter.unusedVariables false
set_option linter.unusedSimpArgs false

theorem FOut.of_below {w w' : World} {fb lb cap : Nat} {F : Fs} {sb bt : Nat} {q : Nat → Option Nat} {m : M} (h : FS w fb lb cap F sb bt q m) (hb : Below w.heap.size w w') : FOut w fb lb cap F sb bt q m w' :=
  ⟨q, h.below hb, But.of_below hb, fun k hk => .inl hk⟩
theorem WOut.of_below {w w' : World} {fb lb cap : Nat} {F : Fs} {sb bt : Nat} {q : Nat → Option Nat} {m : M} (h : FS w fb lb cap F sb bt q m) (hb : Below w.heap.size w w') : WOut w w' fb lb cap F sb bt q m :=
  ⟨h.below hb, But.of_below hb⟩
instance inP_dec (p n : Int) : Decidable (inP p n) := by unfold inP; infer_instance
/-- What Map answers, and leaves. -/
def mapA (F : Fs) (m : M) (p n : Int) (wr sh : Bool) : Int × Fs × M :=
  if inP p n then (if cntP m p.toNat n.toNat ≠ 0 then (22, F, m) else if freeN F < n then (12, F, m) else (0, (mapGo F m p.toNat wr sh n.toNat).1, (mapGo F m p.toNat wr sh n.toNat).2)) else (22, F, m)
def unmapA (F : Fs) (m : M) (p n : Int) : Int × Fs × M :=
  if inP p n then (if cntP m p.toNat n.toNat ≠ n.toNat then (22, F, m) else (0, (unmapGo F m p.toNat n.toNat).1, (unmapGo F m p.toNat n.toNat).2)) else (22, F, m)
section
variable {w : World} {fb lb cap : Nat} {F : Fs} {sb bt : Nat} {q : Nat → Option Nat} {m : M}
theorem spMap_any (h : FS w fb lb cap F sb bt q m) (p n : Int) (mw sh : Bool) :
    Calls Try.prog 12 #[.pointer (some ⟨sb, 0, none⟩), .int .i64 p, .int .i64 n, .bool mw, .bool sh] w fun e w' => e = .returned (.int .i64 (mapA F m p n mw sh).1) ∧ FOut w fb lb cap (mapA F m p n mw sh).2.1 sb bt q (mapA F m p n mw sh).2.2 w' := by
  unfold mapA
  by_cases hp : inP p n
  · rw [if_pos hp]
    obtain ⟨h1, h2, h3, h4⟩ := hp
    obtain ⟨p, rfl⟩ := Int.eq_ofNat_of_zero_le h3
    obtain ⟨n, rfl⟩ := Int.eq_ofNat_of_zero_le (show 0 ≤ n by omega)
    rw [Int.toNat_natCast, Int.toNat_natCast]
    by_cases hc : cntP m p n = 0
    · rw [if_neg (fun e => e hc)]
      by_cases hf : freeN F < (n : Int)
      · rw [if_pos hf]
        exact (spMap_few h p n mw sh (by omega) (by omega) hc hf).mono fun e w' ⟨g1, g2⟩ => ⟨g1, FOut.of_below h g2⟩
      · rw [if_neg hf]
        exact spMap_yes h p n mw sh (by omega) (by omega) hc (by omega)
    · rw [if_pos hc]
      exact (spMap_some h p n mw sh (by omega) (by omega) hc).mono fun e w' ⟨g1, g2⟩ => ⟨g1, FOut.of_below h g2⟩
  · rw [if_neg hp]
    exact (spMap_out h p n mw sh hp).mono fun e w' ⟨g1, g2⟩ => ⟨g1, FOut.of_below h g2⟩
/-- May a write be? -/
def okB (m : M) (a : Nat) (wr : Bool) (k : Nat) : Bool := (List.range k).all fun j => match look m ((a / 64 + j : Nat) : Int) with
  | some x => !wr || x.w
  | none => false
theorem okB_iff (m : M) (a : Nat) (wr : Bool) (k : Nat) : okB m a wr k = true ↔ okK m a wr k := by
  unfold okB okK
  rw [List.all_eq_true]
  constructor
  · intro h j hj
    have := h j (List.mem_range.2 hj)
    cases hx : look m ((a / 64 + j : Nat) : Int) with
    | none => rw [hx] at this; cases this
    | some x =>
      rw [hx] at this
      refine ⟨x, rfl, fun e => ?_⟩
      rw [e] at this
      simpa using this
  · intro h j hj
    obtain ⟨x, hx, hw⟩ := h j (List.mem_range.1 hj)
    rw [hx]
    cases wr with
    | false => rfl
    | true => simpa using hw rfl
/-- What Write answers, and leaves. -/
def writeA (F : Fs) (m : M) (a : Nat) (bs : List Int) : Int × Fs × M :=
  if okB m a true (pcJ a bs.length) then (if freeN F < (needK F m a (pcJ a bs.length) : Nat) then (12, F, m) else (0, (writeGo F m a bs.length bs (pcJ a bs.length)).1, (writeGo F m a bs.length bs (pcJ a bs.length)).2)) else (14, F, m)
theorem spWrite_any (h : FS w fb lb cap F sb bt q m) (hok : SpOk F m) (a : Nat) (bs : List Int) (ad : Option Addr) (c : Nat) (ha : a < 4294967296) (hk : bs.length ≤ 4096) (hlow : ∀ x ∈ bs, 0 ≤ x ∧ x ≤ 255) (hsrc : 0 < bs.length → ∃ g o : Nat, ad = some ⟨g, o, none⟩ ∧ g < w.heap.size ∧ ¬ WS lb bt q g ∧ ∀ (j : Nat) (v : Value), (bs.map fun x => Value.int .u8 x)[j]? = some v → w.cell? ⟨g, o + j, none⟩ = some v) (hcap : bs.length ≤ c) :
    Calls Try.prog 21 #[.pointer (some ⟨sb, 0, none⟩), .int .u32 a, .slice ad bs.length c] w fun e w' => e = .returned (.int .i64 (writeA F m a bs).1) ∧ WOut w w' fb lb cap (writeA F m a bs).2.1 sb bt q (writeA F m a bs).2.2 := by
  unfold writeA
  by_cases hO : okK m a true (pcJ a bs.length)
  · rw [if_pos ((okB_iff _ _ _ _).2 hO)]
    by_cases hf : freeN F < (needK F m a (pcJ a bs.length) : Nat)
    · rw [if_pos hf]
      exact (spWrite_few h hok a bs.length ad c ha hk hO hf).mono fun e w' ⟨g1, g2⟩ => ⟨g1, WOut.of_below h g2⟩
    · rw [if_neg hf]
      exact spWrite_yes h hok a bs.length ad c ha hk hO (by omega) bs rfl hlow hsrc hcap
  · rw [if_neg (fun e => hO ((okB_iff _ _ _ _).1 e))]
    exact (spWrite_no h hok a bs.length ad c ha hk hO).mono fun e w' ⟨g1, g2⟩ => ⟨g1, WOut.of_below h g2⟩
end
end Go.Proofs.Ytlecfdchmcghlaa
