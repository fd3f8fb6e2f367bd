/-
  boot.number, boot.Text: a line's number, a boot's text. Condition: the tables lie as the program's text, and the library's, lay them.
-/
import Derived.Deep.RegionHeld3
import Derived.Test.YtpikgebfeleajaaGreatDoorIsJ
import Derived.Test.YtpikgebfeleajaaGreatDoorStr4
import Derived.Test.YtpikgebfeleajaaGreatDoorBoQ
import Derived.Test.YtpikgebfeleajaaGreatDoorBoot1
namespace Go.Proofs.YtpikgebfeleajaaGreatDoor
open Go.RowKit Go.Shelf
set_option linter.unusedVariables false
set_option linter.unusedSimpArgs false
attribute [local go_sem] Oper.semAt_some

structure GB (w : World) : Prop where
  words : ∃ t, Blk w 0 t #[.string ⟨#[99, 111, 114, 101, 115]⟩, .string ⟨#[102, 114, 97, 109, 101, 115]⟩, .string ⟨#[112, 114, 111, 99, 115]⟩, .string ⟨#[112, 105, 112, 101]⟩]
  isa : I.Ground w
  errs : Errs w
theorem GB.below {w w' : World} (h : GB w) (hb : Below w.heap.size w w') : GB w' := ⟨h.words.elim fun t x => ⟨t, x.below hb x.lt⟩, h.isa.below hb, h.errs.below hb⟩
def wS (k : Nat) : ByteArray := ⟨(wB k).toArray⟩
theorem GB.cell {w : World} (h : GB w) {k : Nat} (hk : k < 4) : w.cell? ⟨0, k, none⟩ = some (.string (wS k)) ∧ 0 < w.heap.size := by
  obtain ⟨t, x⟩ := h.words
  refine ⟨(x.cell k).trans ?_, x.lt⟩
  rcases lt4 hk with rfl | rfl | rfl | rfl <;> rfl
theorem mB_same (k : Nat) : mB' k = mB k := rfl
theorem wS_len : ∀ k : Fin 4, (wS k.1).size ≤ 6 := by decide +kernel

set_option maxRecDepth 100000 in
set_option maxHeartbeats 4000000 in
theorem number_any {w : World} (hG : GB w) {k : Nat} (hk : k < 4) (s : ByteArray) (hs : s.size ≤ 1000000) :
    Calls Tryz.prog 27 #[.int .i64 k, .string s] w fun e w' => e = .returned (.tuple #[.int .i64 (numV k s.data.toList), .bool (decide (NumOk k s.data.toList))]) ∧ Below w.heap.size w w' := by
  obtain ⟨hc, hlt⟩ := hG.cell hk
  have hz := wS_len ⟨k, hk⟩
  dsimp only at hz
  obtain ⟨p, hp⟩ : ∃ p, p = Lib.hasPrefix s.data.toList (wB k ++ [32]) := ⟨_, rfl⟩
  obtain ⟨r, hr⟩ : ∃ r : ByteArray, r = ⟨(restB k s.data.toList).toArray⟩ := ⟨_, rfl⟩
  have hrl : r.data.toList = restB k s.data.toList := by rw [hr]
  have hrz : r.size ≤ 1000000 := by
    have h1 := Lib.trimPrefix_le s.data.toList (wB k ++ [32])
    have h2 : r.size = r.data.toList.length := (Array.length_toList).symm
    have h3 : s.size = s.data.toList.length := (Array.length_toList).symm
    rw [h2, hrl]
    unfold restB
    omega
  have HP := Lib.hid (fun W => show Calls Tryz.prog 50 #[.string s, .string (wS k ++ ⟨#[32]⟩)] W fun e w' => e = .returned (.tuple #[.string r, .bool p]) ∧ w' = W from by
    have h := Tryz.strings_CutPrefix s (wS k ++ ⟨#[32]⟩) W
    have e : (wS k ++ ⟨#[32]⟩ : ByteArray).data.toList = wB k ++ [32] := by
      rw [ByteArray.data_append, Array.toList_append]
      rfl
    rw [e] at h
    rw [hr, hp]
    exact h)
  have HA := Lib.hid (fun W (hW : Below w.heap.size w W) => show Calls Tryz.prog 51 #[.string r] W fun e w' => ∃ er, e = .returned (.tuple #[.int .i64 (numV k s.data.toList), er]) ∧ Fits (okE (Lib.atoiAll (restB k s.data.toList))) er ∧ Below W.heap.size W w' from by
    have h := atoi_any (hG.below hW).errs r (by omega)
    rw [hrl] at h
    exact h)
  have hn := atoiV_range (restB k s.data.toList)
  obtain ⟨n, hnv⟩ : ∃ n, numV k s.data.toList = n := ⟨_, rfl⟩
  obtain ⟨ok, hok⟩ : ∃ ok, okE (Lib.atoiAll (restB k s.data.toList)) = ok := ⟨_, rfl⟩
  obtain ⟨t, ht⟩ : ∃ t : ByteArray, t = ⟨(Lib.itoa n).toArray⟩ := ⟨_, rfl⟩
  have hn2 : -9223372036854775808 ≤ n ∧ n ≤ 9223372036854775807 := by rw [← hnv]; exact hn
  have HI := Lib.hid (fun W (hW : Below w.heap.size w W) => show Calls Tryz.prog 21 #[.int .i64 n] W fun e w' => e = .returned (.string t) ∧ Below W.heap.size W w' from by
    rw [ht]
    exact itoa_any (hG.below hW).isa.pow n hn2.1 hn2.2)
  have HM := Lib.hid (fun W => most_any (w := W) hk)
  obtain ⟨R, hR⟩ : ∃ R, decide (NumOk k s.data.toList) = R := ⟨_, rfl⟩
  rw [hnv] at HA ⊢
  rw [hok] at HA
  rw [hR]
  obtain ⟨q, hq⟩ : ∃ q, (t.toList == r.toList) = q := ⟨_, rfl⟩
  have hQ : NumOk k s.data.toList ↔ (p = true ∧ ok = true ∧ q = true ∧ 1 ≤ n ∧ n ≤ mB k) := by
    unfold NumOk
    rw [← hp, hok, hnv, ← hq, Lib.toList_data, Lib.toList_data, ht, hrl, beq_iff_eq, mB_same]
  have hcase : (p = false ∧ R = false) ∨ (p = true ∧ ok = false ∧ R = false) ∨ (p = true ∧ ok = true ∧ q = false ∧ R = false) ∨ (p = true ∧ ok = true ∧ q = true ∧ ¬ 1 ≤ n ∧ R = false) ∨ (p = true ∧ ok = true ∧ q = true ∧ 1 ≤ n ∧ ¬ n ≤ mB k ∧ R = false) ∨ (p = true ∧ ok = true ∧ q = true ∧ 1 ≤ n ∧ n ≤ mB k ∧ R = true) := by
    rw [← hR]
    simp only [hQ]
    cases p
    · simp
    · cases ok
      · simp
      · cases q
        · simp
        · by_cases h1 : 1 ≤ n
          · by_cases h2 : n ≤ mB k <;> simp [h1, h2]
          · simp [h1]
  have hcat : (wS k).size + (⟨#[32]⟩ : ByteArray).size ≤ 9223372036854775807 := by have : (⟨#[32]⟩ : ByteArray).size = 1 := rfl; omega
  have hk0 : (0 : Int) ≤ (k : Int) := by omega
  have hk4 : (k : Int) < 4 := by omega
  generalize wS k = ws at *
  generalize mB k = mk at *
  have HCS := Lib.hid hcase
  clear hG hz hp hr hrl hrz hn hnv hok ht hn2 hR hQ hcase
  go_enter Tryz.func27, Tryz.ntmps27
  go_wp2_with fail
  refine (HP.out _).mono ?_
  rintro e W ⟨rfl, rfl⟩
  clear hc hlt hcat
  go_wp2_with fail
  refine (HA.out _ (Below.refl _ _)).mono ?_
  rintro e W1 ⟨er, rfl, hf, hb1⟩
  have HB1 := Lib.hid hb1
  clear hb1
  rcases HCS.out with ⟨rfl, rfl⟩ | ⟨rfl, rfl, rfl⟩ | ⟨rfl, rfl, rfl, rfl⟩ | ⟨rfl, rfl, rfl, h1, rfl⟩ | ⟨rfl, rfl, rfl, h1, h2, rfl⟩ | ⟨rfl, rfl, rfl, h1, h2, rfl⟩
  · go_wp2
    go_ret2
    exact ⟨rfl, HB1.out⟩
  · rcases hf with ⟨h0, _⟩ | ⟨_, u, v, rfl⟩
    · cases h0
    go_wp2
    go_ret2
    exact ⟨rfl, HB1.out⟩
  all_goals
    rcases hf with ⟨_, rfl⟩ | ⟨h0, _⟩
    case inr => cases h0
    go_wp2_with fail
    refine (HI.out _ HB1.out).mono ?_
    rintro e W2 ⟨rfl, hb2⟩
    have HB2 := Lib.hid (HB1.out.trans (hb2.mono HB1.out.size))
    clear hb2 HB1
    go_wp2_with (go_at_call 31; refine (HM.out _).mono ?_; rintro e W3 ⟨rfl, rfl⟩)
    go_ret2
    exact ⟨by first | rfl | (simp; done) | (simp; omega), HB2.out⟩

theorem rcells' {w : World} {g : Nat} {t : TypeId} {a b c d e : Value} (h : Blk w g t #[a, b, c, d, e]) : w.cell? ⟨g, 0, none⟩ = some a ∧ w.cell? ⟨g, 1, none⟩ = some b ∧ w.cell? ⟨g, 2, none⟩ = some c ∧ w.cell? ⟨g, 3, none⟩ = some d ∧ w.cell? ⟨g, 4, none⟩ = some e ∧ g < w.heap.size :=
  ⟨(h.cell 0).trans rfl, (h.cell 1).trans rfl, (h.cell 2).trans rfl, (h.cell 3).trans rfl, (h.cell 4).trans rfl, h.lt⟩
theorem bl_step {v W W1 : World} (h : Below v.heap.size v W) (h1 : Below W.heap.size W W1) : Below v.heap.size v W1 := h.trans (h1.mono h.size)
theorem bl_new {v W : World} (h : Below v.heap.size v W) (o : Obj) : Below v.heap.size v (W.alloc o) := h.alloc h.size o
/-! ## a boot's text -/
def lnB (k : Nat) (n : Int) : List UInt8 := lineB k n ++ [10]
def preT (c f p q : Int) (k : Nat) : List UInt8 := (List.range k).flatMap fun j => lnB j (vB c f p q j)
def preS (c f p q : Int) (k : Nat) : ByteArray := ⟨(preT c f p q k).toArray⟩
theorem pre_all (c f p q : Int) : preT c f p q 4 = headT c f p q := by
  unfold preT headT lnB
  simp [List.range_succ, vB]
theorem pre_step (c f p q : Int) (k : Nat) (t : ByteArray) (ht : t.data.toList = Lib.itoa (vB c f p q k)) : preS c f p q k ++ (wS k ++ ⟨#[32]⟩ ++ t ++ ⟨#[10]⟩) = preS c f p q (k + 1) := by
  refine I.bytes_eq ?_
  rw [ByteArray.data_append, ByteArray.data_append, ByteArray.data_append, ByteArray.data_append, Array.toList_append, Array.toList_append, Array.toList_append, Array.toList_append, ht]
  unfold preS preT
  rw [List.range_succ, List.flatMap_append]
  simp [wS, lnB, lineB]
theorem lineB_len {k : Nat} (hk : k < 4) {n : Int} (h0 : -9223372036854775808 ≤ n) (h1 : n ≤ 9223372036854775807) : (lineB k n).length ≤ 28 := by
  have h2 := itoa_len n h0 h1
  have h3 : (wB k).length ≤ 6 := wS_len ⟨k, hk⟩
  unfold lineB
  rw [List.length_append, List.length_cons]
  omega
def Rg4 (c f p q : Int) : Prop := ∀ k, k < 4 → -9223372036854775808 ≤ vB c f p q k ∧ vB c f p q k ≤ 9223372036854775807
theorem pre_len {c f p q : Int} (h : Rg4 c f p q) : ∀ k, k ≤ 4 → (preT c f p q k).length ≤ 40 * k
  | 0, _ => Nat.le_refl _
  | k + 1, hk => by
    have ih := pre_len h k (by omega)
    have h1 := h k (by omega)
    have h2 := lineB_len (k := k) (by omega) h1.1 h1.2
    unfold preT at *
    have h3 : (lnB k (vB c f p q k)).length = (lineB k (vB c f p q k)).length + 1 := by unfold lnB; simp
    rw [List.range_succ, List.flatMap_append, List.length_append]
    simp only [List.flatMap_cons, List.flatMap_nil, List.append_nil]
    omega

set_option maxRecDepth 100000 in
set_option maxHeartbeats 4000000 in
theorem text_no {w : World} (hG : GB w) (c f p q : Int) (A : Option Addr) (len cap : Nat) (hl : len ≤ 1000000) (hm : mayB c f p q len = false) :
    Calls Tryz.prog 6 #[bootV c f p q A len cap] w fun e w' => e = .returned (.tuple #[.string ⟨#[]⟩, .int .i64 190]) ∧ Below w.heap.size w w' := by
  have HB0 := Lib.hid ((Below.refl w.heap.size w).alloc (Nat.le_refl _) (.cells #[.int .i64 c, .int .i64 f, .int .i64 p, .int .i64 q, .slice A len cap] 24))
  have HC := Lib.hid (fun W => check_any (w := W) c f p q A len cap (by omega))
  rw [hm] at HC
  simp only [Bool.false_eq_true, if_false] at HC
  unfold bootV at HC ⊢
  clear hG hm
  go_enter Tryz.func6, Tryz.ntmps6
  go_wp2_with fail
  refine (HC.out _).mono ?_
  rintro e W1 ⟨rfl, hb1⟩
  have HB1 := Lib.hid (bl_step HB0.out hb1)
  clear hb1
  go_wp2
  go_ret2
  exact ⟨rfl, HB1.out⟩

set_option maxRecDepth 100000 in
set_option maxHeartbeats 8000000 in
theorem text_yes {w : World} (hG : GB w) (c f p q : Int) (A : Option Addr) (cap : Nat) (ws : List Int) (hA : I.WordsAt w A ws) (hr : ∀ x ∈ ws, I.RangeW x) (hm : mayB c f p q ws.length = true) :
    Calls Tryz.prog 6 #[bootV c f p q A ws.length cap] w fun e w' => e = .returned (.tuple #[.string ⟨(textB c f p q ws).toArray⟩, .int .i64 0]) ∧ Below w.heap.size w w' := by
  have hmi := (mayB_iff c f p q ws.length).1 hm
  have hrg : Rg4 c f p q := fun k hk => by
    rcases lt4 hk with rfl | rfl | rfl | rfl <;> (simp only [vB, List.getD_cons_zero, List.getD_cons_succ]; omega)
  have hl := hmi.2.2.2.2.2.2.2.2.2
  obtain ⟨lt, hlt⟩ : ∃ lt : ByteArray, lt = ⟨(I.listP ws).toArray⟩ := ⟨_, rfl⟩
  have hlz : lt.size ≤ 1000000 := by
    have e : lt.size = (I.listP ws).length := by rw [hlt]; exact List.size_toArray
    have := I.list_len ws hr
    omega
  have HL := Lib.hid (fun W (hW : Below w.heap.size w W) => show Calls Tryz.prog 22 #[.slice A ws.length cap] W fun e w' => e = .returned (.string lt) ∧ Below W.heap.size W w' from by
    rw [hlt]
    exact I.list_any (hG.below hW).isa A cap ws (by omega) (hA.below hW) hr)
  have HT := Lib.hid (fun (k : Nat) (hk : k < 4) W (hW : Below w.heap.size w W) => show Calls Tryz.prog 21 #[.int .i64 (vB c f p q k)] W fun e w' => e = .returned (.string ⟨(Lib.itoa (vB c f p q k)).toArray⟩) ∧ Below W.heap.size W w' from
    itoa_any (hG.below hW).isa.pow _ (hrg k hk).1 (hrg k hk).2)
  have HW := Lib.hid (fun (k : Nat) (hk : k < 4) W (hW : Below w.heap.size w W) => (hG.below hW).cell hk)
  have HIX := Lib.hid (fun (k : Nat) (hk : k < 4) (w : World) => index4 c f p q hk w)
  have HPL := Lib.hid (fun (k : Nat) (hk : k ≤ 4) => show (preS c f p q k).size ≤ 160 from by
    have := pre_len hrg k hk
    show (preT c f p q k).toArray.size ≤ 160
    rw [List.size_toArray]
    omega)
  have HIL := Lib.hid (fun (k : Nat) (hk : k < 4) => show (⟨(Lib.itoa (vB c f p q k)).toArray⟩ : ByteArray).size ≤ 21 from by
    have := itoa_len _ (hrg k hk).1 (hrg k hk).2
    show (Lib.itoa (vB c f p q k)).toArray.size ≤ 21
    rw [List.size_toArray]
    exact this)
  have HST := Lib.hid (fun (k : Nat) => pre_step c f p q k ⟨(Lib.itoa (vB c f p q k)).toArray⟩ rfl)
  have HEN := Lib.hid (show (preS c f p q 4 ++ lt : ByteArray) = ⟨(textB c f p q ws).toArray⟩ from by
    refine I.bytes_eq ?_
    rw [ByteArray.data_append, Array.toList_append, hlt]
    unfold textB
    rw [← pre_all]
    rfl)
  have HP0 : Hid ((⟨#[]⟩ : ByteArray) = preS c f p q 0) := rfl
  have HC := Lib.hid (fun W => check_any (w := W) c f p q A ws.length cap (by omega))
  have HS := Lib.hid (fun W => sizes_any (w := W) c f p q A ws.length cap)
  rw [hm] at HC
  simp only [if_true] at HC
  have HB0 := Lib.hid ((Below.refl w.heap.size w).alloc (Nat.le_refl _) (.cells #[.int .i64 c, .int .i64 f, .int .i64 p, .int .i64 q, .slice A ws.length cap] 24))
  have HX0 := Lib.hid (Blk.new w 24 #[.int .i64 c, .int .i64 f, .int .i64 p, .int .i64 q, .slice A ws.length cap])
  unfold bootV at HC HS ⊢
  obtain ⟨T, hT⟩ : ∃ T : ByteArray, (⟨(textB c f p q ws).toArray⟩ : ByteArray) = T := ⟨_, rfl⟩
  rw [hT] at HEN ⊢
  clear hG hA hr hm hmi hrg hlt hT
  go_enter Tryz.func6, Tryz.ntmps6
  go_wp2_with fail
  refine (HC.out _).mono ?_
  rintro e W1 ⟨rfl, hb1⟩
  have hx1 := HX0.out.below hb1 HX0.out.lt
  have HX1 := Lib.hid hx1
  have HB1 := Lib.hid (bl_step HB0.out hb1)
  clear hb1 HX0 HB0 HC
  obtain ⟨x0, x1, x2, x3, x4, xlt⟩ := rcells' hx1
  go_wp2_with fail
  refine (HS.out _).mono ?_
  rintro e W2 ⟨rfl, hb2⟩
  have HX2 := Lib.hid (HX1.out.below hb2 HX1.out.lt)
  have HB2 := Lib.hid (bl_step HB1.out hb2)
  clear hb2 HX1 HB1 HS x0 x1 x2 x3 x4 xlt hx1
  go_wp2_with fail
  go_loopw [5, 15] (fun v i wr => ∃ k : Nat, i = .int .i64 (k : Int) ∧ k ≤ 4 ∧ v = .string (preS c f p q k) ∧ Hid (Blk wr w.heap.size 24 #[.int .i64 c, .int .i64 f, .int .i64 p, .int .i64 q, .slice A ws.length cap]) ∧ Hid (Below w.heap.size w wr)) (fun _ i _ => 4 - (intOf i).toNat)
  case atStart => exact ⟨0, rfl, by omega, rfl, HX2, HB2⟩
  case round =>
    obtain ⟨k, rfl, hk, rfl, HX, HB⟩ := hrel
    clear HX2 HB2
    have hpl := HPL.out k hk
    by_cases hk4 : k < 4
    · have hkb : (k : Int) < 4 := by omega
      have hkb0 : (0 : Int) ≤ (k : Int) := by omega
      have hix := HIX.out k hk4
      obtain ⟨hcw, hgl⟩ := HW.out k hk4 _ HB.out
      have hil := HIL.out k hk4
      have hwl : (wS k).size ≤ 6 := wS_len ⟨k, hk4⟩
      have hst := HST.out k
      have HTK := Lib.hid (HT.out k hk4)
      generalize (⟨(Lib.itoa (vB c f p q k)).toArray⟩ : ByteArray) = ib at *
      generalize vB c f p q k = v at *
      generalize wS k = wk at *
      have HSN := Lib.hid hst
      generalize preS c f p q k = pk at *
      have z3 : (wk ++ ⟨#[32]⟩ : ByteArray).size = wk.size + 1 := by rw [ByteArray.size_append]; rfl
      have z4 : (wk ++ ⟨#[32]⟩ ++ ib : ByteArray).size = wk.size + 1 + ib.size := by rw [ByteArray.size_append, z3]
      have z5 : (wk ++ ⟨#[32]⟩ ++ ib ++ ⟨#[10]⟩ : ByteArray).size = wk.size + 1 + ib.size + 1 := by rw [ByteArray.size_append, z4]; rfl
      have y1 : wk.size + (⟨#[32]⟩ : ByteArray).size ≤ 9223372036854775807 := by have : (⟨#[32]⟩ : ByteArray).size = 1 := rfl; omega
      have y2 : (wk ++ ⟨#[32]⟩ : ByteArray).size + ib.size ≤ 9223372036854775807 := by omega
      have y3 : (wk ++ ⟨#[32]⟩ ++ ib : ByteArray).size + (⟨#[10]⟩ : ByteArray).size ≤ 9223372036854775807 := by have : (⟨#[10]⟩ : ByteArray).size = 1 := rfl; omega
      have y4 : pk.size + (wk ++ ⟨#[32]⟩ ++ ib ++ ⟨#[10]⟩ : ByteArray).size ≤ 9223372036854775807 := by omega
      clear z3 z4 z5
      have q1 : ¬ 9223372036854775807 < wk.size + 1 := by omega
      have q2 : ¬ 9223372036854775807 < wk.size + 1 + ib.size := by omega
      have q3 : ¬ 9223372036854775807 < wk.size + 1 + ib.size + 1 := by omega
      have q4 : ¬ 9223372036854775807 < pk.size + (wk.size + 1 + ib.size + 1) := by omega
      clear y1 y2 y3 y4
      have HWK := Lib.hid (fun W (hW : Below wr.heap.size wr W) => show W.cell? ⟨0, k, none⟩ = some (.string wk) from by rw [hW.cell hgl]; exact hcw)
      have HTR := Lib.hid (fun W (hW : Below wr.heap.size wr W) => show Calls Tryz.prog 21 #[.int .i64 v] W fun e w' => e = .returned (.string ib) ∧ Below wr.heap.size wr w' from (HTK.out W (HB.out.trans (hW.mono HB.out.size))).mono fun e w' ⟨he, hb⟩ => ⟨he, bl_step hW hb⟩)
      have hBc := Below.refl wr.heap.size wr
      clear hst HTK
      go_wp2_with fail
      go_region_held3 (fun W => W.cell? ⟨0, k, none⟩ = some (.string wk))
        (first | exact (have h : Below wr.heap.size wr _ := (by repeat (first | assumption | refine Below.drew ?_)); HWK.out _ h))
        (first | (go_at_call 21; refine (HTR.out _ ?_).mono ?_; (focus (repeat (first | assumption | refine Below.drew ?_))); rintro e W1 ⟨rfl, hW1⟩))
      rename World => wn
      have hbn : Below wr.heap.size wr wn := by assumption
      have HXN := Lib.hid (HX.out.below hbn HX.out.lt)
      have HBN := Lib.hid (bl_step HB.out hbn)
      go_wp2
      go_roundw
      case rel => exact ⟨k + 1, by go_num, by omega, by rw [← HSN.out], HXN, HBN⟩
      case measure => simp [intOf]; omega
    · have hkk : k = 4 := by omega
      subst hkk
      have hx := HX.out
      obtain ⟨x0, x1, x2, x3, x4, xlt⟩ := rcells' hx
      have hen := HEN.out
      generalize preS c f p q 4 = pk at *
      have hcat : pk.size + lt.size ≤ 9223372036854775807 := by omega
      clear hx
      go_wp2_with fail
      refine (HL.out _ HB.out).mono ?_
      rintro e W5 ⟨rfl, hb5⟩
      have HB5 := Lib.hid (bl_step HB.out hb5)
      clear hb5 x0 x1 x2 x3 x4 xlt
      go_wp2
      go_ret2
      exact ⟨by first | rfl | simp, HB5.out⟩
end Go.Proofs.YtpikgebfeleajaaGreatDoor
