/-
  Walks over package isa: Check. Condition: the table lies as the program's text lays it.
-/
import Derived.Deep.RegionHeld3
import Derived.Test.YtoglmemmdolbmaaDoorTab
import Derived.Test.YtoglmemmdolbmaaDoorLns
namespace Go.Proofs.YtoglmemmdolbmaaDoor.I
section
open Go.RowKit
set_option linter.unusedVariables false
set_option linter.unusedSimpArgs false

def formsL : List (List UInt8 × Int × Int × Bool) := [([110, 111, 112], -1, -1, false), ([108, 105], 7, -1, true), ([108, 117, 105], 7, -1, true), ([109, 111, 118], 7, 7, false), ([97, 100, 100], 7, 7, false), ([115, 117, 98], 7, 7, false), ([109, 117, 108], 7, 7, false), ([97, 110, 100], 7, 7, false), ([111, 114], 7, 7, false), ([120, 111, 114], 7, 7, false), ([115, 104, 108], 7, 7, false), ([115, 104, 114], 7, 7, false), ([97, 100, 100, 105], 7, -1, true), ([115, 108, 116], 7, 7, false), ([115, 101, 113], 7, 7, false), ([108, 119], 7, 7, true), ([115, 119], 7, 7, true), ([108, 98], 7, 7, true), ([115, 98], 7, 7, true), ([106, 109, 112], -1, -1, true), ([106, 122], 7, -1, true), ([106, 110, 122], 7, -1, true), ([106, 97, 108], 7, -1, true), ([106, 114], 7, -1, false), ([115, 121, 115], -1, -1, false), ([122, 115, 101, 116], 1, 6, false), ([122, 103, 101, 116], 1, 6, false), ([122, 97, 100, 100], 1, 1, false), ([122, 109, 117, 108], 1, 1, false), ([122, 99, 111, 110, 106], 1, -1, false)]
def cellsF (r : List UInt8 × Int × Int × Bool) : List Value := [.string ⟨r.1.toArray⟩, .int .i64 r.2.1, .int .i64 r.2.2.1, .bool r.2.2.2]
def fArr : Array Value := (formsL.flatMap cellsF).toArray
def rowF (k : Nat) : List UInt8 × Int × Int × Bool := formsL.getD k ([], 0, 0, false)
/-- The word of row k, how far its A and its B go, whether it names Imm. -/
def fN (k : Nat) : ByteArray := ⟨(rowF k).1.toArray⟩
def fA (k : Nat) : Int := (rowF k).2.1
def fB (k : Nat) : Int := (rowF k).2.2.1
def fI (k : Nat) : Bool := (rowF k).2.2.2
structure Laid (w : World) : Prop where
  forms : ∃ t, Blk w 0 t fArr
theorem Laid.klt {w : World} (h : Laid w) : 0 < w.heap.size := h.forms.elim fun _ x => x.lt
theorem Laid.belowB {B : Nat} {w w' : World} (h : Laid w) (hb : Below B w w') (hk : 0 < B) : Laid w' := by
  obtain ⟨t, h1⟩ := h
  exact ⟨t, h1.below hb hk⟩
theorem Laid.below {w w' : World} (h : Laid w) (hb : Below w.heap.size w w') : Laid w' := h.belowB hb h.klt
theorem fArr_at {k : Nat} (hk : k < 30) : fArr[k * 4]? = some (.string (fN k)) ∧ fArr[k * 4 + 1]? = some (.int .i64 (fA k)) ∧ fArr[k * 4 + 2]? = some (.int .i64 (fB k)) ∧ fArr[k * 4 + 3]? = some (.bool (fI k)) := by
  have h : formsL[k]? = some (rowF k) := by
    have hl : k < formsL.length := hk
    unfold rowF
    rw [List.getD_eq_getElem?_getD, List.getElem?_eq_getElem hl]; rfl
  have h0 := tab_flat cellsF 4 (fun _ => rfl) formsL k 0 _ (by omega) h
  have h1 := tab_flat cellsF 4 (fun _ => rfl) formsL k 1 _ (by omega) h
  have h2 := tab_flat cellsF 4 (fun _ => rfl) formsL k 2 _ (by omega) h
  have h3 := tab_flat cellsF 4 (fun _ => rfl) formsL k 3 _ (by omega) h
  unfold fArr
  rw [List.getElem?_toArray, List.getElem?_toArray, List.getElem?_toArray, List.getElem?_toArray]
  exact ⟨h0, h1, h2, h3⟩
theorem Laid.kcell {w : World} (h : Laid w) {k : Nat} (hk : k < 30) : w.cell? ⟨0, k * 4, none⟩ = some (.string (fN k)) ∧ w.cell? ⟨0, k * 4 + 1, none⟩ = some (.int .i64 (fA k)) ∧ w.cell? ⟨0, k * 4 + 2, none⟩ = some (.int .i64 (fB k)) ∧ w.cell? ⟨0, k * 4 + 3, none⟩ = some (.bool (fI k)) ∧ 0 < w.heap.size :=
  h.forms.elim fun _ x => ⟨(x.cell _).trans (fArr_at hk).1, (x.cell _).trans (fArr_at hk).2.1, (x.cell _).trans (fArr_at hk).2.2.1, (x.cell _).trans (fArr_at hk).2.2.2, x.lt⟩

/-- An instruction's row, whatever number is asked for; 30: it has none. -/
def fR (n : Int) : Nat := if 0 ≤ n ∧ n < 30 then n.toNat else 30
def isR (n : Int) : Bool := decide (0 ≤ n ∧ n < 30)
theorem fR_le (n : Int) : fR n ≤ 30 := by unfold fR; split <;> omega
theorem fR_in {k : Nat} (h : k < 30) : fR (k : Int) = k := by unfold fR; rw [if_pos (by omega)]; omega
theorem fR_out {n : Int} (h : ¬ (0 ≤ n ∧ n < 30)) : fR n = 30 := by unfold fR; rw [if_neg h]
/-- A row as a struct. -/
def aggF (k : Nat) : Value := .agg #[.string (fN k), .int .i64 (fA k), .int .i64 (fB k), .bool (fI k)]

theorem ccells {w : World} {g : Nat} {t : TypeId} {a b c d : Value} (h : Blk w g t #[a, b, c, d]) : w.cell? ⟨g, 0, none⟩ = some a ∧ w.cell? ⟨g, 1, none⟩ = some b ∧ w.cell? ⟨g, 2, none⟩ = some c ∧ w.cell? ⟨g, 3, none⟩ = some d ∧ g < w.heap.size :=
  ⟨(h.cell 0).trans rfl, (h.cell 1).trans rfl, (h.cell 2).trans rfl, (h.cell 3).trans rfl, h.lt⟩
theorem set4_blk {W : World} {b : Nat} {t : TypeId} {v0 v1 v2 v3 : Value} (h : Blk W b t #[v0, v1, v2, v3]) (u0 u1 u2 u3 : Value) : Blk ((((W.setCell ⟨b, 0, none⟩ u0).setCell ⟨b, 1, none⟩ u1).setCell ⟨b, 2, none⟩ u2).setCell ⟨b, 3, none⟩ u3) b t #[u0, u1, u2, u3] := by
  have := (((h.set_ 0 u0).set_ 1 u1).set_ 2 u2).set_ 3 u3
  simpa using this
theorem set4_below {B b : Nat} {w W : World} (h : Below B w W) (hb : B ≤ b) (u0 u1 u2 u3 : Value) : Below B w ((((W.setCell ⟨b, 0, none⟩ u0).setCell ⟨b, 1, none⟩ u1).setCell ⟨b, 2, none⟩ u2).setCell ⟨b, 3, none⟩ u3) :=
  (((h.setCell (p := ⟨b, 0, none⟩) hb _).setCell (p := ⟨b, 1, none⟩) hb _).setCell (p := ⟨b, 2, none⟩) hb _).setCell (p := ⟨b, 3, none⟩) hb _
theorem bl_step {v W W1 : World} (h : Below v.heap.size v W) (h1 : Below W.heap.size W W1) : Below v.heap.size v W1 := h.trans (h1.mono h.size)
theorem bl_new {v W : World} (h : Below v.heap.size v W) (o : Obj) : Below v.heap.size v (W.alloc o) := h.alloc h.size o
set_option maxHeartbeats 1000000 in
set_option maxRecDepth 100000 in
theorem of_any {w : World} (hL : Laid w) (n : Int) : Calls Tryd.prog 27 #[.int .i64 n] w fun e w' => e = .returned (.tuple #[aggF (fR n), .bool (isR n)]) ∧ Below w.heap.size w w' := by
  by_cases h : 0 ≤ n ∧ n < 30
  · obtain ⟨k, rfl⟩ := Int.eq_ofNat_of_zero_le h.1
    have h2 : k < 30 := by omega
    have hi : isR (k : Int) = true := decide_eq_true h
    rw [fR_in h2, hi]
    obtain ⟨c0, c1, c2, c3, hlt⟩ := hL.kcell h2
    have hn1 : ¬ (k : Int) < 0 := by omega
    have hn2 : (k : Int) < 30 := by omega
    clear h hL hi
    unfold aggF
    generalize fN k = s at *
    generalize fA k = a at *
    generalize fB k = b at *
    generalize fI k = i at *
    go_enter Tryd.func27, Tryd.ntmps27
    go_wp2
    exact bodyPost_ret (results_row_tmp Tryd.results27 _ rfl (Blk.new w _ _) Tryd.underlying76 rfl (by kernel_rfl)) rfl ⟨rfl, (Below.refl _ _).alloc (Nat.le_refl _) _⟩
  · have hi : isR n = false := decide_eq_false h
    rw [fR_out h, hi]
    show Calls Tryd.prog 27 #[.int .i64 n] w fun e w' => e = .returned (.tuple #[.agg #[.string ⟨#[]⟩, .int .i64 0, .int .i64 0, .bool false], .bool false]) ∧ Below w.heap.size w w'
    by_cases hn : n < 0
    · clear h hi
      go_enter Tryd.func27, Tryd.ntmps27
      go_wp2
      exact bodyPost_ret (results_row_tmp Tryd.results27 _ rfl (Blk.new w _ _) Tryd.underlying76 rfl (by kernel_rfl)) rfl ⟨rfl, (Below.refl _ _).alloc (Nat.le_refl _) _⟩
    · have hn2 : ¬ n < 30 := by omega
      have hn3 : 30 ≤ n := by omega
      clear h hi
      go_enter Tryd.func27, Tryd.ntmps27
      go_wp2
      exact bodyPost_ret (results_row_tmp Tryd.results27 _ rfl (Blk.new w _ _) Tryd.underlying76 rfl (by kernel_rfl)) rfl ⟨rfl, (Below.refl _ _).alloc (Nat.le_refl _) _⟩


theorem form_name (k : Nat) (w : World) : (Instr.field 76 (aggF k) 0).run Tryd.prog w = .ok (.string (fN k)) w := by
  unfold aggF
  generalize fN k = s
  generalize fA k = a
  generalize fB k = b
  generalize fI k = i
  kernel_rfl
end
end Go.Proofs.YtoglmemmdolbmaaDoor.I
namespace Go.Proofs.YtoglmemmdolbmaaDoor.I
section
set_option linter.unusedVariables false
set_option linter.unusedSimpArgs false

/-- An instruction. -/
structure Ins where
  op : Int
  a : Int
  b : Int
  imm : Int
deriving DecidableEq
def Ins.cells (x : Ins) : List Value := [.int .i64 x.op, .int .i64 x.a, .int .i64 x.b, .int .i64 x.imm]
def x0 : Ins := ⟨0, 0, 0, 0⟩
def MayI (x : Ins) : Prop := (0 ≤ x.op ∧ x.op < 30) ∧ (0 ≤ x.a ∧ x.a ≤ max (fA (fR x.op)) 0) ∧ (0 ≤ x.b ∧ x.b ≤ max (fB (fR x.op)) 0) ∧ (x.imm = 0 ∨ (fI (fR x.op) = true ∧ -32768 ≤ x.imm ∧ x.imm ≤ 32767))
instance (x : Ins) : Decidable (MayI x) := by unfold MayI; infer_instance
theorem row_most : ∀ k : Fin 31, (-1 ≤ fA k.1 ∧ fA k.1 ≤ 7) ∧ (-1 ≤ fB k.1 ∧ fB k.1 ≤ 7) := by decide +kernel
theorem fA_range (n : Int) : -1 ≤ fA (fR n) ∧ fA (fR n) ≤ 7 := (row_most ⟨fR n, by have := fR_le n; omega⟩).1
theorem fB_range (n : Int) : -1 ≤ fB (fR n) ∧ fB (fR n) ≤ 7 := (row_most ⟨fR n, by have := fR_le n; omega⟩).2
theorem may_small {x : Ins} (h : MayI x) : (0 ≤ x.op ∧ x.op < 30) ∧ (0 ≤ x.a ∧ x.a ≤ 7) ∧ (0 ≤ x.b ∧ x.b ≤ 7) ∧ (-32768 ≤ x.imm ∧ x.imm ≤ 32767) := by
  obtain ⟨h1, h2, h3, h4⟩ := h
  have := fA_range x.op
  have := fB_range x.op
  omega

/-! ## words -/
def encI (x : Ins) : Int := x.op * 16777216 + x.a * 1048576 + x.b * 65536 + x.imm % 65536
def encW (x : Ins) : Int := if MayI x then encI x else 0
def decI (w : Int) : Ins := ⟨w / 16777216, w / 1048576 % 16, w / 65536 % 16, if w % 65536 < 32768 then w % 65536 else w % 65536 - 65536⟩
def RangeW (w : Int) : Prop := 0 ≤ w ∧ w < 4294967296
theorem encI_range {x : Ins} (h : MayI x) : RangeW (encI x) := by
  have := may_small h
  unfold encI RangeW
  omega
theorem encW_range (x : Ins) : RangeW (encW x) := by
  unfold encW
  split
  · rename_i h; exact encI_range h
  · unfold RangeW; omega
theorem dec_enc {x : Ins} (h : MayI x) : decI (encI x) = x := by
  have hs := may_small h
  obtain ⟨op, a, b, imm⟩ := x
  unfold encI decI
  simp only [Ins.mk.injEq] at hs ⊢
  refine ⟨by omega, by omega, by omega, ?_⟩
  split <;> omega
theorem enc_dec {w : Int} (h : RangeW w) : encI (decI w) = w := by
  unfold RangeW at h
  unfold encI decI
  simp only
  split <;> omega
theorem enc_inj {x y : Ins} (hx : MayI x) (hy : MayI y) (h : encI x = encI y) : x = y := by rw [← dec_enc hx, h, dec_enc hy]
theorem dec_small {w : Int} (h : RangeW w) : (0 ≤ (decI w).op ∧ (decI w).op < 256) ∧ (0 ≤ (decI w).a ∧ (decI w).a ≤ 15) ∧ (0 ≤ (decI w).b ∧ (decI w).b ≤ 15) ∧ (-32768 ≤ (decI w).imm ∧ (decI w).imm ≤ 32767) := by
  unfold RangeW at h
  unfold decI
  simp only
  split <;> omega

/-! ## numbers -/
def isD (c : UInt8) : Bool := decide (48 ≤ c.toNat ∧ c.toNat ≤ 57)
def accD (a : Int) (l : List UInt8) : Int := l.foldl (fun a c => a * 10 + ((c.toNat : Int) - 48)) a
def negS (l : List UInt8) : Bool := match l with | c :: _ => decide (c = 45) | [] => false
def bodyS (l : List UInt8) : List UInt8 := if negS l then l.tail else l
def sgnS (l : List UInt8) : Int := if negS l then -1 else 1
def numN (l : List UInt8) : Int := if 10 < l.length then 0 else if (bodyS l).all isD then sgnS l * accD 0 (bodyS l) else 0
def numB (l : List UInt8) : Bool := decide (l.length ≤ 10) && (bodyS l).all isD && decide (itoaF (numN l) = l)
theorem accD_cons (a : Int) (c : UInt8) (l : List UInt8) : accD a (c :: l) = accD (a * 10 + ((c.toNat : Int) - 48)) l := rfl
theorem accD_app (a : Int) (l r : List UInt8) : accD a (l ++ r) = accD (accD a l) r := by unfold accD; rw [List.foldl_append]
theorem accD_bound : ∀ (l : List UInt8) (k : Nat), l.length ≤ k → l.all isD = true → 0 ≤ accD 0 l ∧ accD 0 l < 10 ^ l.length := by
  intro l k
  induction k generalizing l with
  | zero =>
    intro h _
    have : l = [] := List.eq_nil_of_length_eq_zero (by omega)
    subst this
    exact ⟨Int.le_refl 0, by decide⟩
  | succ k ih =>
    intro h ha
    rcases List.eq_nil_or_concat l with rfl | ⟨r, c, rfl⟩
    · exact ⟨Int.le_refl 0, by decide⟩
    · rw [List.concat_eq_append] at *
      rw [List.all_append, Bool.and_eq_true] at ha
      rw [List.length_append] at h
      have h1 := ih r (by simp at h; omega) ha.1
      have h2 : 48 ≤ c.toNat ∧ c.toNat ≤ 57 := by
        have := ha.2
        simp only [List.all_cons, List.all_nil, Bool.and_true, isD, decide_eq_true_eq] at this
        exact this
      rw [accD_app, List.length_append, List.length_cons, List.length_nil, Nat.zero_add, Int.pow_succ]
      show 0 ≤ accD 0 r * 10 + ((c.toNat : Int) - 48) ∧ accD 0 r * 10 + ((c.toNat : Int) - 48) < _
      generalize accD 0 r = v at *
      generalize (10 : Int) ^ r.length = q at *
      omega
theorem pow_le_ten {k : Nat} (h : k ≤ 10) : (10 : Int) ^ k ≤ 10000000000 := by
  have hh : ∀ j : Fin 11, (10 : Int) ^ j.1 ≤ 10000000000 := by decide
  exact hh ⟨k, by omega⟩
theorem accD_le {l : List UInt8} (h : l.length ≤ 10) (ha : l.all isD = true) : 0 ≤ accD 0 l ∧ accD 0 l < 10000000000 := by
  have h1 := accD_bound l _ (Nat.le_refl _) ha
  have h2 := pow_le_ten h
  exact ⟨h1.1, Int.lt_of_lt_of_le h1.2 h2⟩
theorem bodyS_len (l : List UInt8) : (bodyS l).length ≤ l.length := by
  unfold bodyS
  split
  · rw [List.length_tail]; omega
  · exact Nat.le_refl _
theorem sgnS_or (l : List UInt8) : sgnS l = 1 ∨ sgnS l = -1 := by
  unfold sgnS
  split
  · exact .inr rfl
  · exact .inl rfl
theorem numN_range (l : List UInt8) : -10000000000 < numN l ∧ numN l < 10000000000 := by
  unfold numN
  split
  · omega
  · split
    · rename_i h1 h2
      have := accD_le (l := bodyS l) (by have := bodyS_len l; omega) h2
      rcases sgnS_or l with h | h <;> rw [h] <;> omega
    · omega
theorem numB_itoa {l : List UInt8} (h : numB l = true) : Lib.itoa (numN l) = l ∧ l.length ≤ 10 := by
  unfold numB at h
  rw [Bool.and_eq_true, Bool.and_eq_true, decide_eq_true_eq, decide_eq_true_eq] at h
  have hr := numN_range l
  rw [← itoaF_eq (by omega) (by omega)]
  exact ⟨h.2, h.1.1⟩
theorem decF_len : ∀ (f u : Nat), (decF f u).length ≤ f
  | 0, u => Nat.le_refl 0
  | f + 1, u => by
    unfold decF
    split
    · simp
    · rw [List.length_append]
      have := decF_len f (u / 10)
      simp only [List.length_cons, List.length_nil]
      omega
theorem decF_dig : ∀ (f u : Nat), (decF f u).all isD = true
  | 0, u => rfl
  | f + 1, u => by
    unfold decF
    split
    · rename_i h
      simp only [List.all_cons, List.all_nil, Bool.and_true, isD, decide_eq_true_eq, nat_digit h]
      omega
    · have hd : u % 10 < 10 := Nat.mod_lt _ (by omega)
      rw [List.all_append, decF_dig f (u / 10)]
      simp only [List.all_cons, List.all_nil, Bool.and_true, Bool.true_and, isD, decide_eq_true_eq, nat_digit hd]
      omega
theorem decF_acc : ∀ (f u : Nat), u < 10 ^ f → accD 0 (decF f u) = u
  | 0, u, h => by
    have : u = 0 := by simp at h; omega
    subst this
    rfl
  | f + 1, u, h => by
    unfold decF
    split
    · rename_i h
      show 0 * 10 + (((UInt8.ofNat (48 + u)).toNat : Int) - 48) = u
      rw [nat_digit h]
      omega
    · have hd : u % 10 < 10 := Nat.mod_lt _ (by omega)
      have h1 : u / 10 < 10 ^ f := by rw [Nat.pow_succ] at h; omega
      rw [accD_app, decF_acc f (u / 10) h1]
      show ((u / 10 : Nat) : Int) * 10 + (((UInt8.ofNat (48 + u % 10)).toNat : Int) - 48) = u
      rw [nat_digit hd]
      omega
theorem num_of_itoa {n : Int} (h0 : -1000000000 < n) (h1 : n < 10000000000) : numB (Lib.itoa n) = true ∧ numN (Lib.itoa n) = n := by
  have hN : ∀ l, (bodyS l).all isD = true → l.length ≤ 10 → sgnS l * accD 0 (bodyS l) = n → l = Lib.itoa n → numB l = true ∧ numN l = n := by
    intro l ha hl hv he
    have hn : numN l = n := by unfold numN; rw [if_neg (by omega), if_pos ha, hv]
    refine ⟨?_, hn⟩
    unfold numB
    rw [ha, hn, itoaF_eq (by omega) (by omega), ← he]
    simp [hl]
  by_cases hneg : n < 0
  · have e : Lib.itoa n = 45 :: decF 9 n.natAbs := by
      unfold Lib.itoa
      rw [if_pos hneg, ← decF_eq 9 _ (by show _ < 1000000000; omega) (by decide)]
    rw [e]
    refine hN _ (decF_dig 9 _) (by have := decF_len 9 n.natAbs; simp only [List.length_cons]; omega) ?_ e.symm
    show -1 * accD 0 (decF 9 n.natAbs) = n
    rw [decF_acc 9 _ (by show _ < 1000000000; omega)]
    omega
  · have e : Lib.itoa n = decF 10 n.toNat := by
      unfold Lib.itoa
      rw [if_neg hneg, ← decF_eq 10 _ (by show _ < 10000000000; omega) (by decide)]
    have hng : negS (decF 10 n.toNat) = false := by
      cases hc : decF 10 n.toNat with
      | nil => rfl
      | cons c r =>
        have h := decF_dig 10 n.toNat
        rw [hc, List.all_cons, Bool.and_eq_true] at h
        have h2 := h.1
        unfold isD at h2
        rw [decide_eq_true_eq] at h2
        show decide (c = 45) = false
        rw [decide_eq_false_iff_not]
        intro h3
        subst h3
        exact absurd h2.1 (by decide)
    rw [e]
    have hb : bodyS (decF 10 n.toNat) = decF 10 n.toNat := by unfold bodyS; rw [hng]; rfl
    refine hN _ (by rw [hb]; exact decF_dig 10 _) (decF_len 10 _) ?_ e.symm
    rw [hb]
    unfold sgnS
    rw [hng, decF_acc 10 _ (by show _ < 10000000000; omega)]
    simp only [Bool.false_eq_true, if_false]
    omega

/-! ## lines of instructions -/
def nameI (n : Int) : List UInt8 := (rowF (fR n)).1
def wordsI (x : Ins) : List (List UInt8) := nameI x.op :: ((if 0 ≤ fA (fR x.op) then [Lib.itoa x.a] else []) ++ ((if 0 ≤ fB (fR x.op) then [Lib.itoa x.b] else []) ++ (if fI (fR x.op) = true then [Lib.itoa x.imm] else [])))
def lineI (x : Ins) : List UInt8 := glue (wordsI x)
/-- The row with a word, from k on; 30: there is none. -/
def opFrom (l : List UInt8) : Nat → Nat → Nat
  | 0, k => k
  | f + 1, k => if (rowF k).1 = l then k else opFrom l f (k + 1)
def opW (l : List UInt8) : Nat := opFrom l 30 0
theorem opFrom_le (l : List UInt8) : ∀ f k, opFrom l f k ≤ k + f
  | 0, k => Nat.le_refl _
  | f + 1, k => by
    unfold opFrom
    split
    · omega
    · have := opFrom_le l f (k + 1); omega
theorem opFrom_word (l : List UInt8) : ∀ f k, opFrom l f k < k + f → (rowF (opFrom l f k)).1 = l
  | 0, k, h => absurd h (by unfold opFrom; omega)
  | f + 1, k, h => by
    unfold opFrom at h ⊢
    split
    · rename_i h1; exact h1
    · rename_i h1
      rw [if_neg h1] at h
      exact opFrom_word l f (k + 1) (by omega)
theorem opW_le (l : List UInt8) : opW l ≤ 30 := by have := opFrom_le l 30 0; unfold opW; omega
theorem opW_word {l : List UInt8} (h : opW l < 30) : (rowF (opW l)).1 = l := opFrom_word l 30 0 (by unfold opW at h; omega)
theorem opW_row : ∀ k : Fin 30, opW (rowF k.1).1 = k.1 := by decide +kernel
theorem opW_name {n : Int} (h : 0 ≤ n ∧ n < 30) : (opW (nameI n) : Int) = n := by
  obtain ⟨k, rfl⟩ := Int.eq_ofNat_of_zero_le h.1
  unfold nameI
  rw [fR_in (by omega), opW_row ⟨k, by omega⟩]
theorem nameI_opW {l : List UInt8} (h : opW l < 30) : nameI (opW l) = l := by
  unfold nameI
  rw [fR_in h, opW_word h]
def nmC (i : Nat) (c : UInt8) : Bool := (decide (97 ≤ c.toNat) && decide (c.toNat ≤ 122)) || (decide (48 ≤ c.toNat) && decide (c.toNat ≤ 57) && decide (0 < i))
def nmAll : Nat → List UInt8 → Bool
  | _, [] => true
  | i, c :: r => nmC i c && nmAll (i + 1) r
def nameB (l : List UInt8) : Bool := nmAll 0 l && (decide (1 ≤ l.length) && decide (l.length ≤ 16))
def jmpB (n : Int) : Bool := decide (19 ≤ n ∧ n ≤ 22)
/-- What named has taken: the words left, the instruction, the label. -/
structure NmS where
  ws : List (List UInt8)
  x : Ins
  lab : List UInt8
def putF (x : Ins) : Nat → Int → Ins
  | 0, n => { x with a := n }
  | 1, n => { x with b := n }
  | _, n => { x with imm := n }
def stepN (j : Nat) (want : Bool) (s : NmS) : Option NmS :=
  if want then
    match s.ws with
    | [] => none
    | w :: r => if numB w then some ⟨r, putF s.x j (numN w), s.lab⟩ else if j = 2 ∧ jmpB s.x.op = true ∧ nameB w = true then some ⟨r, s.x, w⟩ else none
  else some s
def wantF (k : Nat) : Nat → Bool
  | 0 => decide (0 ≤ fA k)
  | 1 => decide (0 ≤ fB k)
  | _ => fI k
def nm0 (ws : List (List UInt8)) : NmS := ⟨ws.tail, ⟨opW (ws.getD 0 []), 0, 0, 0⟩, []⟩
def nm1 (k : Nat) (s : Option NmS) : Option NmS := s.bind (stepN 0 (wantF k 0))
def nm2 (k : Nat) (s : Option NmS) : Option NmS := s.bind (stepN 1 (wantF k 1))
def nm3 (k : Nat) (s : Option NmS) : Option NmS := s.bind (stepN 2 (wantF k 2))
def namedO (ws : List (List UInt8)) : Option NmS := if opW (ws.getD 0 []) < 30 then nm3 (opW (ws.getD 0 [])) (nm2 (opW (ws.getD 0 [])) (nm1 (opW (ws.getD 0 [])) (some (nm0 ws)))) else none
structure NmT where
  x : Ins
  lab : List UInt8
  is : Bool
deriving DecidableEq
def namedT (ws : List (List UInt8)) : NmT := match namedO ws with
  | none => ⟨x0, [], false⟩
  | some s => ⟨s.x, s.lab, s.ws.isEmpty && decide (MayI s.x)⟩
def readI (s : List UInt8) : Option Ins := if (namedT (pieces s)).is && (namedT (pieces s)).lab.isEmpty then some (namedT (pieces s)).x else none

/-! ## programs -/
structure JmpS where
  pl : Int
  x : Ins
  lab : List UInt8
  line : Int
deriving DecidableEq
structure PgS where
  words : List Int
  labs : List (List UInt8 × Int)
  jumps : List JmpS
deriving DecidableEq
def labO : List (List UInt8 × Int) → List UInt8 → Option Int
  | [], _ => none
  | (k, v) :: r, n => if k = n then some v else labO r n
def cutSuf (c : UInt8) (s : List UInt8) : Option (List UInt8) := if s.getLast? = some c then some s.dropLast else none
def wordP : List UInt8 := [119, 111, 114, 100, 32]
def takeP (p : PgS) (s : List UInt8) (line : Int) : PgS × Bool :=
  match cutSuf 58 s with
  | some n => if (labO p.labs n).isSome || !nameB n then (p, false) else (⟨p.words, (n, p.words.length) :: p.labs, p.jumps⟩, true)
  | none =>
    if 512 ≤ p.words.length then (p, false)
    else if wordP.isPrefixOf s then
      (⟨p.words ++ [numN (s.drop 5) % 4294967296], p.labs, p.jumps⟩, numB (s.drop 5) && decide (0 ≤ numN (s.drop 5) ∧ numN (s.drop 5) < 4294967296))
    else
      (⟨p.words ++ [encW (namedT (pieces s)).x], p.labs, if (namedT (pieces s)).lab = [] then p.jumps else p.jumps ++ [⟨p.words.length, (namedT (pieces s)).x, (namedT (pieces s)).lab, line⟩]⟩, (namedT (pieces s)).is)
def pg0 : PgS := ⟨[], [], []⟩
/-- A line without its end; whether it has one. -/
def cutNl (l : List UInt8) : List UInt8 × Bool := match cutSuf 10 l with
  | some t => (t, true)
  | none => (l, false)
/-- What is assembled by lines from the n-th on; the last line's number; whether all went well. -/
def runA : PgS → Int → List (List UInt8) → PgS × Int × Bool
  | p, n, [] => (p, n, true)
  | p, n, l :: ls => if (cutNl l).2 then (if (takeP p (cutNl l).1 (n + 1)).2 then runA (takeP p (cutNl l).1 (n + 1)).1 (n + 1) ls else ((takeP p (cutNl l).1 (n + 1)).1, n + 1, false)) else (p, n + 1, false)
def jmpX (j : JmpS) (tp : Int) : Ins := { j.x with imm := tp - j.pl - 1 }
/-- The jumps' words put in; or the line of the first one that will not do. -/
def fixJ (labs : List (List UInt8 × Int)) : List JmpS → List Int → List Int × Option Int
  | [], ws => (ws, none)
  | j :: js, ws => match labO labs j.lab with
    | none => (ws, some j.line)
    | some tp => if MayI (jmpX j tp) then fixJ labs js (ws.set j.pl.toNat (encI (jmpX j tp))) else (ws, some j.line)
def asmP (s : List UInt8) : List Int × Int × Int :=
  if (runA pg0 0 (lns s)).2.2 then
    match fixJ (runA pg0 0 (lns s)).1.labs (runA pg0 0 (lns s)).1.jumps (runA pg0 0 (lns s)).1.words with
    | (ws, none) => (ws, 0, 0)
    | (_, some n) => ([], n, 31)
  else ([], (runA pg0 0 (lns s)).2.1, 31)
def lineW (w : Int) : List UInt8 := if MayI (decI w) then lineI (decI w) else wordP ++ Lib.decDigits w.toNat
def listP (ws : List Int) : List UInt8 := ws.flatMap fun w => lineW w ++ [10]
theorem asm_first : asmP [97, 58, 10, 108, 105, 32, 49, 32, 53, 10, 106, 110, 122, 32, 49, 32, 97, 10, 106, 109, 112, 32, 98, 10, 98, 58, 10, 115, 121, 115, 10] = ([17825797, 353435646, 318767104, 402653184], 0, 0) := by decide +kernel
end
end Go.Proofs.YtoglmemmdolbmaaDoor.I
namespace Go.Proofs.YtoglmemmdolbmaaDoor.I
section
open Go.RowKit
set_option linter.unusedVariables false
set_option linter.unusedSimpArgs false
attribute [local go_sem] Oper.semAt_some

def errI (x : Ins) : Int := if MayI x then 0 else 30
theorem errI_is {op a b m fa fb : Int} {q fi : Bool} (hq : isR op = q) (ha : fA (fR op) = fa) (hb : fB (fR op) = fb) (hi : fI (fR op) = fi) :
    errI ⟨op, a, b, m⟩ = if q = true ∧ (0 ≤ a ∧ a ≤ max fa 0) ∧ (0 ≤ b ∧ b ≤ max fb 0) ∧ (m = 0 ∨ (fi = true ∧ -32768 ≤ m ∧ m ≤ 32767)) then 0 else 30 := by
  unfold errI MayI
  simp only [ha, hb, hi]
  rw [← hq]
  unfold isR
  simp only [decide_eq_true_eq]

theorem run_max0 (ts : Array TypeId) (t : TypeId) (x : Int) (W : World) : (Builtin.max_ ts t #[.int .i64 x, .int .i64 0]).run Tryd.prog W = .ok (.int .i64 (max x 0)) W := by
  have h : (Builtin.max_ ts t #[.int .i64 x, .int .i64 0]).run Tryd.prog W = .ok (.int .i64 (if 0 > x then 0 else x)) W := by simp [Builtin.max_, Builtin.max2]
  rw [h]
  congr 2
  split <;> omega

set_option maxRecDepth 100000 in
set_option maxHeartbeats 4000000 in
theorem check_any {w : World} (hL : Laid w) (op a b m : Int) : Calls Tryd.prog 26 #[.agg #[.int .i64 op, .int .i64 a, .int .i64 b, .int .i64 m]] w fun e w' => e = .returned (.int .i64 (errI ⟨op, a, b, m⟩)) ∧ Below w.heap.size w w' := by
  have hb0 := (Below.refl w.heap.size w).alloc (Nat.le_refl _) (.cells #[.int .i64 op, .int .i64 a, .int .i64 b, .int .i64 m] 38)
  have hx0 := Blk.new w 38 #[.int .i64 op, .int .i64 a, .int .i64 b, .int .i64 m]
  have H := Lib.hid (of_any (hL.below hb0) op)
  unfold aggF at H
  obtain ⟨q, hq⟩ : ∃ q, isR op = q := ⟨_, rfl⟩
  obtain ⟨fa, hfa⟩ : ∃ q, fA (fR op) = q := ⟨_, rfl⟩
  obtain ⟨fb, hfb⟩ : ∃ q, fB (fR op) = q := ⟨_, rfl⟩
  obtain ⟨fi, hfi⟩ : ∃ q, fI (fR op) = q := ⟨_, rfl⟩
  have ra := fA_range op
  have rb := fB_range op
  have HE := errI_is (a := a) (b := b) (m := m) hq hfa hfb hfi
  rw [hq, hfa, hfb, hfi] at H
  rw [hfa] at ra
  rw [hfb] at rb
  obtain ⟨er, her⟩ : ∃ er, errI ⟨op, a, b, m⟩ = er := ⟨_, rfl⟩
  rw [her] at HE ⊢
  generalize fN (fR op) = s at *
  clear hL hq hfa hfb hfi her
  go_enter Tryd.func26, Tryd.ntmps26
  go_wp2_with fail
  refine H.out.mono ?_
  rintro e w1 ⟨rfl, hb1⟩
  have hx1 := hx0.below hb1 hx0.lt
  have HB1 := Lib.hid (bl_step hb0 hb1)
  obtain ⟨c0, c1, c2, c3, clt⟩ := ccells hx1
  clear hb0 hx0 hb1 hx1 H
  have hm : m = 0 ∨ (¬ m = 0 ∧ fi = false) ∨ (¬ m = 0 ∧ fi = true ∧ m < -32768) ∨ (¬ m = 0 ∧ fi = true ∧ -32768 ≤ m ∧ 32767 < m) ∨ (¬ m = 0 ∧ fi = true ∧ -32768 ≤ m ∧ m ≤ 32767) := by
    cases fi
    · by_cases h : m = 0
      · exact .inl h
      · exact .inr (.inl ⟨h, rfl⟩)
    · simp only [Bool.true_eq_false, and_false, false_or, true_and]
      omega
  obtain ⟨ma, hma⟩ : ∃ ma, ma = max fa 0 := ⟨_, rfl⟩
  obtain ⟨mb, hmb⟩ : ∃ mb, mb = max fb 0 := ⟨_, rfl⟩
  rw [← hma, ← hmb] at HE
  have HXA := fun ts t W => run_max0 ts t fa W
  have HXB := fun ts t W => run_max0 ts t fb W
  rw [← hma] at HXA
  rw [← hmb] at HXB
  clear hma hmb ra rb
  have hr : q = false ∨ (q = true ∧ a < 0) ∨ (q = true ∧ 0 ≤ a ∧ ma < a) ∨ (q = true ∧ 0 ≤ a ∧ a ≤ ma ∧ b < 0) ∨ (q = true ∧ 0 ≤ a ∧ a ≤ ma ∧ 0 ≤ b ∧ mb < b) ∨ (q = true ∧ 0 ≤ a ∧ a ≤ ma ∧ 0 ≤ b ∧ b ≤ mb) := by
    cases q
    · exact .inl rfl
    · simp only [Bool.true_eq_false, false_or, true_and]
      omega
  have HH := Lib.hid HE
  clear HE
  rcases hr with rfl | ⟨rfl, h1⟩ | ⟨rfl, h1, h2⟩ | ⟨rfl, h1, h2, h3⟩ | ⟨rfl, h1, h2, h3, h4⟩ | ⟨rfl, h1, h2, h3, h4⟩
  case inr.inr.inr.inr.inr =>
    have hm2 : (m = 0 ∧ er = 0) ∨ (¬ m = 0 ∧ fi = false ∧ er = 30) ∨ (¬ m = 0 ∧ fi = true ∧ m < -32768 ∧ er = 30) ∨ (¬ m = 0 ∧ fi = true ∧ -32768 ≤ m ∧ 32767 < m ∧ er = 30) ∨ (¬ m = 0 ∧ fi = true ∧ -32768 ≤ m ∧ m ≤ 32767 ∧ er = 0) := by
      have he := HH.out
      rcases hm with rfl | ⟨k1, rfl⟩ | ⟨k1, rfl, k2⟩ | ⟨k1, rfl, k2, k3⟩ | ⟨k1, rfl, k2, k3⟩
      · rw [if_pos ⟨rfl, ⟨h1, h2⟩, ⟨h3, h4⟩, .inl rfl⟩] at he
        exact .inl ⟨rfl, he⟩
      · rw [if_neg (fun h => by rcases h.2.2.2 with h | h; exact k1 h; cases h.1)] at he
        exact .inr (.inl ⟨k1, rfl, he⟩)
      · rw [if_neg (fun h => by rcases h.2.2.2 with h | h; exact k1 h; omega)] at he
        exact .inr (.inr (.inl ⟨k1, rfl, k2, he⟩))
      · rw [if_neg (fun h => by rcases h.2.2.2 with h | h; exact k1 h; omega)] at he
        exact .inr (.inr (.inr (.inl ⟨k1, rfl, k2, k3, he⟩)))
      · rw [if_pos ⟨rfl, ⟨h1, h2⟩, ⟨h3, h4⟩, .inr ⟨rfl, k2, k3⟩⟩] at he
        exact .inr (.inr (.inr (.inr ⟨k1, rfl, k2, k3, he⟩)))
    clear hm HH
    rcases hm2 with ⟨rfl, rfl⟩ | ⟨k1, rfl, rfl⟩ | ⟨k1, rfl, k2, rfl⟩ | ⟨k1, rfl, k2, k3, rfl⟩ | ⟨k1, rfl, k2, k3, rfl⟩
    all_goals
      try have kb : (m == 0) = false := beq_false_of_ne k1
      try
        first
          | (have d2 : decide (-32768 ≤ m) = false := decide_eq_false (by omega); clear k2)
          | (have d2 : decide (-32768 ≤ m) = true := decide_eq_true k2; first | (have d3 : decide (m ≤ 32767) = true := decide_eq_true k3; clear k2 k3) | (have d3 : decide (m ≤ 32767) = false := decide_eq_false (by omega); clear k2 k3))
      go_wp2
      go_ret
      exact ⟨rfl, bl_new HB1.out _⟩
  all_goals
    obtain rfl : er = 30 := by rw [HH.out, if_neg]; first | omega | simp
    clear HH
    rcases hm with rfl | ⟨k1, rfl⟩ | ⟨k1, rfl, k2⟩ | ⟨k1, rfl, k2, k3⟩ | ⟨k1, rfl, k2, k3⟩
    all_goals
      try
        first
          | (have d2 : decide (-32768 ≤ m) = false := decide_eq_false (by omega); clear k2)
          | (have d2 : decide (-32768 ≤ m) = true := decide_eq_true k2; first | (have d3 : decide (m ≤ 32767) = true := decide_eq_true k3; clear k2 k3) | (have d3 : decide (m ≤ 32767) = false := decide_eq_false (by omega); clear k2 k3))
      go_wp2
      go_ret
      exact ⟨rfl, bl_new HB1.out _⟩
end
end Go.Proofs.YtoglmemmdolbmaaDoor.I
