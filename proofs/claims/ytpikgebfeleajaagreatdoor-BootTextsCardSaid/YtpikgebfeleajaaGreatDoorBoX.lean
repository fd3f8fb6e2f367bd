/-
  boot.Parse: what a text says. Condition: the tables lie as the program's text, and the library's, lay them.
-/
import Derived.Test.YtpikgebfeleajaaGreatDoorBoW
import Derived.Test.YtpikgebfeleajaaGreatDoorIsE
namespace Go.Proofs.YtpikgebfeleajaaGreatDoor
open Go.RowKit Go.Shelf
set_option linter.unusedVariables false
set_option linter.unusedSimpArgs false
attribute [local go_sem] Oper.semAt_some

/-! ## lines' numbers stay small (plain) -/
def LineOk (N : Nat) (p : I.PgS) : Prop := ∀ j ∈ p.jumps, 0 ≤ j.line ∧ j.line ≤ N
theorem takeP_line {p : I.PgS} {N : Nat} (h : LineOk N p) (s : List UInt8) {line : Int} (h0 : 0 ≤ line) (h1 : line ≤ N) : LineOk N (I.takeP p s line).1 := by
  unfold I.takeP
  cases hc : I.cutSuf 58 s with
  | some n =>
    simp only
    split
    · exact h
    · exact h
  | none =>
    simp only
    split
    · exact h
    · split
      · exact h
      · intro j hj
        simp only at hj
        split at hj
        · exact h j hj
        · rcases List.mem_append.1 hj with hj | hj
          · exact h j hj
          · rw [List.mem_singleton.1 hj]; exact ⟨h0, h1⟩
theorem runA_line : ∀ (ls : List (List UInt8)) (p : I.PgS) (n : Int) (N : Nat), LineOk N p → 0 ≤ n → n + (ls.length : Int) ≤ N → LineOk N (I.runA p n ls).1 ∧ 0 ≤ (I.runA p n ls).2.1 ∧ (I.runA p n ls).2.1 ≤ N
  | [], p, n, N, h, h0, h1 => ⟨h, h0, by show n ≤ (N : Int); simpa using h1⟩
  | l :: ls, p, n, N, h, h0, h1 => by
    rw [List.length_cons] at h1
    unfold I.runA
    split
    · split
      · exact runA_line ls _ _ N (takeP_line h _ (by omega) (by omega)) (by omega) (by omega)
      · exact ⟨takeP_line h _ (by omega) (by omega), by simp only; omega, by simp only; omega⟩
    · exact ⟨h, by simp only; omega, by simp only; omega⟩
theorem fixJ_line (labs : List (List UInt8 × Int)) (N : Nat) : ∀ (js : List I.JmpS) (ws : List Int) (n : Int), (∀ j ∈ js, 0 ≤ j.line ∧ j.line ≤ N) → (I.fixJ labs js ws).2 = some n → 0 ≤ n ∧ n ≤ N
  | [], ws, n, _, h => by cases h
  | j :: js, ws, n, hj, h => by
    unfold I.fixJ at h
    have h1 := hj j (List.mem_cons_self ..)
    split at h
    · injection h with h; rw [← h]; exact h1
    · split at h
      · exact fixJ_line labs N js _ n (fun x hx => hj x (List.mem_cons_of_mem _ hx)) h
      · injection h with h; rw [← h]; exact h1
theorem asm_line (s : List UInt8) : 0 ≤ (I.asmP s).2.1 ∧ (I.asmP s).2.1 ≤ (s.length : Int) := by
  have hl := lns_len s
  obtain ⟨h1, h2, h3⟩ := runA_line (lns s) I.pg0 0 s.length (fun j hj => (by cases hj)) (by omega) (by omega)
  unfold I.asmP
  split
  · have h4 := fun n => fixJ_line (I.runA I.pg0 0 (lns s)).1.labs s.length (I.runA I.pg0 0 (lns s)).1.jumps (I.runA I.pg0 0 (lns s)).1.words n h1
    split
    · exact ⟨Int.le_refl _, by simp only; omega⟩
    · rename_i ws n h5
      rw [h5] at h4
      exact h4 n rfl
  · exact ⟨h2, h3⟩

/-! ## the walk -/
theorem set5_blk {W : World} {b : Nat} {t : TypeId} {v0 v1 v2 v3 v4 : Value} (h : Blk W b t #[v0, v1, v2, v3, v4]) (u0 u1 u2 u3 u4 : Value) : Blk (((((W.setCell ⟨b, 0, none⟩ u0).setCell ⟨b, 1, none⟩ u1).setCell ⟨b, 2, none⟩ u2).setCell ⟨b, 3, none⟩ u3).setCell ⟨b, 4, none⟩ u4) b t #[u0, u1, u2, u3, u4] := by
  have := ((((h.set_ 0 u0).set_ 1 u1).set_ 2 u2).set_ 3 u3).set_ 4 u4
  simpa using this
theorem set5_below {B b : Nat} {w W : World} (h : Below B w W) (hb : B ≤ b) (u0 u1 u2 u3 u4 : Value) : Below B w (((((W.setCell ⟨b, 0, none⟩ u0).setCell ⟨b, 1, none⟩ u1).setCell ⟨b, 2, none⟩ u2).setCell ⟨b, 3, none⟩ u3).setCell ⟨b, 4, none⟩ u4) :=
  ((((h.setCell (p := ⟨b, 0, none⟩) hb _).setCell (p := ⟨b, 1, none⟩) hb _).setCell (p := ⟨b, 2, none⟩) hb _).setCell (p := ⟨b, 3, none⟩) hb _).setCell (p := ⟨b, 4, none⟩) hb _
/-- The numbers of the first k lines. -/
def arrV (a b c d : Int) (k : Nat) : Array Value := #[.int .i64 (if 0 < k then a else 0), .int .i64 (if 1 < k then b else 0), .int .i64 (if 2 < k then c else 0), .int .i64 (if 3 < k then d else 0)]
theorem arrV_at (a b c d : Int) {k : Nat} (hk : k < 4) : (arrV a b c d k)[k]? = some (.int .i64 0) := by
  rcases lt4 hk with rfl | rfl | rfl | rfl <;> rfl
theorem arrV_set (a b c d : Int) {k : Nat} (hk : k < 4) : (arrV a b c d k).setIfInBounds k (.int .i64 ([a, b, c, d].getD k 0)) = arrV a b c d (k + 1) := by
  rcases lt4 hk with rfl | rfl | rfl | rfl <;> rfl
structure PB (w : World) (a b c d : Int) (k : Nat) (W : World) : Prop where
  r : Blk W w.heap.size 24 #[.int .i64 0, .int .i64 0, .int .i64 0, .int .i64 0, .slice none 0 0]
  l : Blk W (w.heap.size + 1) 49 (arrV a b c d k)
  b : Below w.heap.size w W
theorem PB.below {w W W' : World} {a b c d : Int} {k : Nat} (h : PB w a b c d k W) (hb : Below W.heap.size W W') : PB w a b c d k W' := ⟨h.r.below hb h.r.lt, h.l.below hb h.l.lt, bl_step h.b hb⟩
theorem cut_any {w : World} (hM : MaxL w) (s : ByteArray) (hs : s.size ≤ 1000000) : Calls Tryz.prog 26 #[.string s, .string ⟨#[10]⟩] w fun e w' => e = .returned (.tuple #[.string ⟨(hdL s.data.toList).toArray⟩, .string ⟨(tlL s.data.toList).toArray⟩, .bool (okL s.data.toList)]) ∧ Below w.heap.size w w' := by
  obtain ⟨m, hm⟩ := hM.cell
  refine (Tryz.strings_Cut s ⟨#[10]⟩ m w (by omega) hm).mono fun e w' ⟨he, n, hw⟩ => ⟨he, ?_⟩
  rw [hw]
  exact ⟨rfl, rfl, rfl, Nat.le_refl _, fun _ _ => rfl⟩
theorem bad_at {s : List UInt8} {k : Nat} (hk : k < 4) (h : ∀ j, j < k → StepOk j (behL j s)) (hn : ¬ StepOk k (behL k s)) : badB s = some k := by
  unfold badB
  rcases lt4 hk with rfl | rfl | rfl | rfl
  · rw [if_pos hn]
  · rw [if_neg (by simpa using h 0 (by omega)), if_pos hn]
  · rw [if_neg (by simpa using h 0 (by omega)), if_neg (by simpa using h 1 (by omega)), if_pos hn]
  · rw [if_neg (by simpa using h 0 (by omega)), if_neg (by simpa using h 1 (by omega)), if_neg (by simpa using h 2 (by omega)), if_pos hn]
theorem bad_not {s : List UInt8} (h : ∀ j, j < 4 → StepOk j (behL j s)) : badB s = none := by
  unfold badB
  rw [if_neg (by simpa using h 0 (by omega)), if_neg (by simpa using h 1 (by omega)), if_neg (by simpa using h 2 (by omega)), if_neg (by simpa using h 3 (by omega))]
theorem parse_bad {s : List UInt8} {k : Nat} (h : badB s = some k) : parseB s = ((0, 0, 0, 0, []), (k : Int) + 1, 190) := by unfold parseB; rw [h]
theorem parse_good {s : List UInt8} (h : badB s = none) : parseB s = if (I.asmP (behL 4 s)).2.2 = 0 then (if (I.asmP (behL 4 s)).1 = [] then ((0, 0, 0, 0, []), 0, 190) else ((valB 0 s, valB 1 s, valB 2 s, valB 3 s, (I.asmP (behL 4 s)).1), 0, 0)) else ((0, 0, 0, 0, []), 4 + (I.asmP (behL 4 s)).2.1, 190) := by unfold parseB; rw [h]
theorem rows_same' {W W' : World} {A : Option Addr} {k : Nat} {rows : List (List Value)} (h : RowsAt W A k rows) (hA : ∀ b off, A = some ⟨b, off, none⟩ → W'.heap[b]? = W.heap[b]?) (hs : W.heap.size ≤ W'.heap.size) : RowsAt W' A k rows := fun i r hr => by
  obtain ⟨g, o, e, hl, hc⟩ := h i r hr
  refine ⟨g, o, e, by omega, fun j v hv => ?_⟩
  have := hc j v hv
  unfold World.cell? at this ⊢
  rw [hA g o e]
  exact this
theorem words_apart {W : World} {A : Option Addr} {ws : List Int} {g : Nat} {t : TypeId} {cs : Array Value} (h : I.WordsAt W A ws) (hne : ws ≠ []) (hb : Blk W g t cs) (hno : ∀ (i : Nat) (x : Int), cs[i]? ≠ some (Value.int .u32 x)) : ∀ b off, A = some ⟨b, off, none⟩ → b ≠ g := by
  rintro b off rfl rfl
  obtain ⟨x, r, rfl⟩ := List.exists_cons_of_ne_nil hne
  obtain ⟨g', o', e, _, hc⟩ := I.wordsAt_cell h (k := 0) rfl
  injection e with e
  injection e with e1 e2 _
  subst e1 e2
  rw [hb.cell] at hc
  exact hno _ _ hc
theorem zero_no (i : Nat) (x : Int) : (#[.int .i64 0, .int .i64 0, .int .i64 0, .int .i64 0, .slice none 0 0] : Array Value)[i]? ≠ some (Value.int .u32 x) := by
  rcases Nat.lt_or_ge i 5 with h | h
  · rcases (show i = 0 ∨ i = 1 ∨ i = 2 ∨ i = 3 ∨ i = 4 by omega) with rfl | rfl | rfl | rfl | rfl <;> simp
  · rw [Array.getElem?_eq_none (by simpa using h)]
    simp
theorem set5_heap (W : World) (g b : Nat) (h : b ≠ g) (u0 u1 u2 u3 u4 : Value) : (((((W.setCell ⟨g, 0, none⟩ u0).setCell ⟨g, 1, none⟩ u1).setCell ⟨g, 2, none⟩ u2).setCell ⟨g, 3, none⟩ u3).setCell ⟨g, 4, none⟩ u4).heap[b]? = W.heap[b]? := by
  rw [Below.heap_setCell _ _ _ _ h, Below.heap_setCell _ _ _ _ h, Below.heap_setCell _ _ _ _ h, Below.heap_setCell _ _ _ _ h, Below.heap_setCell _ _ _ _ h]
/-- What Parse hands back. -/
def RetB (P : (Int × Int × Int × Int × List Int) × Int × Int) (w : World) (e : Ending) (w' : World) : Prop :=
  ∃ (A : Option Addr) (cap : Nat), e = .returned (.tuple #[bootV P.1.1 P.1.2.1 P.1.2.2.1 P.1.2.2.2.1 A P.1.2.2.2.2.length cap, .int .i64 P.2.1, .int .i64 P.2.2]) ∧ I.WordsAt w' A P.1.2.2.2.2 ∧ P.1.2.2.2.2.length ≤ cap ∧ Below w.heap.size w w'
theorem words_nil (w : World) (A : Option Addr) : I.WordsAt w A [] := fun i r h => by simp at h

set_option maxRecDepth 100000 in
set_option maxHeartbeats 8000000 in
theorem parse_any {w : World} (hG : GB w) (s : ByteArray) (hs : s.size ≤ 1000000) : Calls Tryz.prog 8 #[.string s] w (RetB (parseB s.data.toList) w) := by
  obtain ⟨post, hpost⟩ : ∃ post : Ending → World → Prop, RetB (parseB s.data.toList) w = post := ⟨_, rfl⟩
  rw [hpost]
  have HPOST := Lib.hid hpost
  clear hpost
  have hsl : s.data.toList.length = s.size := Array.length_toList
  obtain ⟨sl, hsd⟩ : ∃ sl, s.data.toList = sl := ⟨_, rfl⟩
  rw [hsd] at HPOST hsl
  have HLEN := Lib.hid (fun k => show (⟨(behL k sl).toArray⟩ : ByteArray).size ≤ 1000000 from by
    have := beh_len k sl
    show (behL k sl).toArray.size ≤ _
    rw [List.size_toArray]
    omega)
  have hb0 : Below w.heap.size w ((w.alloc (.cells #[.int .i64 0, .int .i64 0, .int .i64 0, .int .i64 0, .slice none 0 0] 24)).alloc (.cells #[.int .i64 0, .int .i64 0, .int .i64 0, .int .i64 0] 49)) := ((Below.refl w.heap.size w).alloc (Nat.le_refl _) _).alloc (by simp) _
  have hl0 := Blk.new (w.alloc (.cells #[.int .i64 0, .int .i64 0, .int .i64 0, .int .i64 0, .slice none 0 0] 24)) 49 #[.int .i64 0, .int .i64 0, .int .i64 0, .int .i64 0]
  rw [World.size_alloc] at hl0
  have HP0 : Hid (PB w (valB 0 sl) (valB 1 sl) (valB 2 sl) (valB 3 sl) 0 ((w.alloc (.cells #[.int .i64 0, .int .i64 0, .int .i64 0, .int .i64 0, .slice none 0 0] 24)).alloc (.cells #[.int .i64 0, .int .i64 0, .int .i64 0, .int .i64 0] 49))) := ⟨(Blk.new _ _ _).alloc _, hl0, hb0⟩
  have HCUT := Lib.hid (fun (k : Nat) W (hW : Below w.heap.size w W) => show Calls Tryz.prog 26 #[.string ⟨(behL k sl).toArray⟩, .string ⟨#[10]⟩] W fun e w' => e = .returned (.tuple #[.string ⟨(hdL (behL k sl)).toArray⟩, .string ⟨(tlL (behL k sl)).toArray⟩, .bool (okL (behL k sl))]) ∧ Below W.heap.size W w' from cut_any (hG.below hW).isa.max ⟨(behL k sl).toArray⟩ (HLEN.out k))
  have HNUM := Lib.hid (fun (k : Nat) (hk : k < 4) W (hW : Below w.heap.size w W) => show Calls Tryz.prog 27 #[.int .i64 k, .string ⟨(hdL (behL k sl)).toArray⟩] W fun e w' => e = .returned (.tuple #[.int .i64 (numV k (hdL (behL k sl))), .bool (decide (NumOk k (hdL (behL k sl))))]) ∧ Below W.heap.size W w' from number_any (hG.below hW) hk ⟨(hdL (behL k sl)).toArray⟩ (by
    have h1 := (hd_len (behL k sl)).1
    have h2 := beh_len k sl
    show (hdL (behL k sl)).toArray.size ≤ _
    rw [List.size_toArray]
    omega))
  have HASM := Lib.hid (fun W (hW : Below w.heap.size w W) => I.asm_any (hG.below hW).isa ⟨(behL 4 sl).toArray⟩ (HLEN.out 4) (ws := (I.asmP (behL 4 sl)).1) (n := (I.asmP (behL 4 sl)).2.1) (er := (I.asmP (behL 4 sl)).2.2) rfl)
  have hal := asm_line (behL 4 sl)
  have hal2 := beh_len 4 sl
  have hs0 : s = ⟨(behL 0 sl).toArray⟩ := by
    show s = ⟨sl.toArray⟩
    rw [← hsd]
  rw [hs0]
  have hN0 : 0 ≤ (I.asmP (behL 4 sl)).2.1 := hal.1
  have hN1 : (I.asmP (behL 4 sl)).2.1 ≤ 1000000 := by omega
  clear hG hb0 hl0 hsl hsd hs0 hal hal2 hs
  go_enter Tryz.func8, Tryz.ntmps8
  go_wp2_with fail
  go_loopw [0, 15] (fun v i wr => ∃ k : Nat, i = .int .i64 (k : Int) ∧ k ≤ 4 ∧ v = .string ⟨(behL k sl).toArray⟩ ∧ Hid (∀ j, j < k → StepOk j (behL j sl)) ∧ Hid (PB w (valB 0 sl) (valB 1 sl) (valB 2 sl) (valB 3 sl) k wr)) (fun _ i _ => 4 - (intOf i).toNat)
  case atStart => exact ⟨0, rfl, by omega, rfl, fun j hj => absurd hj (Nat.not_lt_zero j), HP0⟩
  case round =>
    obtain ⟨k, rfl, hk, rfl, HOK, HP⟩ := hrel
    clear HP0
    by_cases hk4 : k < 4
    · have hkb : (k : Int) < 4 := by omega
      have hkb0 : (0 : Int) ≤ (k : Int) := by omega
      have HC := Lib.hid (HCUT.out k)
      have HN := Lib.hid (HNUM.out k hk4)
      have hod : (decide (NumOk k (hdL (behL k sl))) = false ∧ ¬ StepOk k (behL k sl)) ∨ (decide (NumOk k (hdL (behL k sl))) = true ∧ okL (behL k sl) = false ∧ ¬ StepOk k (behL k sl)) ∨ (decide (NumOk k (hdL (behL k sl))) = true ∧ okL (behL k sl) = true ∧ StepOk k (behL k sl)) := by
        unfold StepOk
        by_cases h1 : NumOk k (hdL (behL k sl)) <;> cases h2 : okL (behL k sl) <;> simp [h1, h2]
      have HBAD := Lib.hid (fun hn : ¬ StepOk k (behL k sl) => parse_bad (bad_at hk4 HOK.out hn))
      have HOD := Lib.hid hod
      have HV := Lib.hid (show numV k (hdL (behL k sl)) = [valB 0 sl, valB 1 sl, valB 2 sl, valB 3 sl].getD k 0 from by rcases lt4 hk4 with rfl | rfl | rfl | rfl <;> rfl)
      have HNX : Hid ((⟨(tlL (behL k sl)).toArray⟩ : ByteArray) = ⟨(behL (k + 1) sl).toArray⟩) := rfl
      generalize (⟨(tlL (behL k sl)).toArray⟩ : ByteArray) = tl at *
      generalize (⟨(hdL (behL k sl)).toArray⟩ : ByteArray) = hd at *
      generalize numV k (hdL (behL k sl)) = v at *
      generalize okL (behL k sl) = o at *
      generalize decide (NumOk k (hdL (behL k sl))) = d at *
      clear hod
      go_wp2_with fail
      refine (HC.out _ HP.out.b).mono ?_
      rintro e W1 ⟨rfl, hb1⟩
      have HP1 := Lib.hid (HP.out.below hb1)
      clear hb1 HP HC
      go_wp2_with fail
      refine (HN.out _ HP1.out.b).mono ?_
      rintro e W2 ⟨rfl, hb2⟩
      have HP2 := Lib.hid (HP1.out.below hb2)
      clear hb2 HP1 HN
      have hR := HP2.out.r
      have f0 := hR.frozen 0
      have f1 := hR.frozen 1
      have f2 := hR.frozen 2
      have f3 := hR.frozen 3
      have f4 := hR.frozen 4
      obtain ⟨r0, r1, r2, r3, r4, rlt⟩ := rcells' hR
      have l0 := (HP2.out.l.cell k).trans (arrV_at (valB 0 sl) (valB 1 sl) (valB 2 sl) (valB 3 sl) hk4)
      have lf := HP2.out.l.frozen k
      have llt := HP2.out.l.lt
      rcases HOD.out with ⟨rfl, hbad⟩ | ⟨rfl, rfl, hbad⟩ | ⟨rfl, rfl, hst⟩
      · have hpb := HBAD.out hbad
        have HPB := Lib.hid hpb
        clear hbad hpb HOD HBAD
        go_wp2
        rw [← HPOST.out, HPB.out]
        exact bodyPost_ret (I.results_row_tmp2 Tryz.results8 _ rfl (set5_blk HP2.out.r _ _ _ _ _) Tryz.underlying24 rfl (by kernel_rfl)) rfl ⟨none, 0, rfl, words_nil _ _, Nat.le_refl _, set5_below HP2.out.b (Nat.le_refl _) _ _ _ _ _⟩
      · have hpb := HBAD.out hbad
        have HPB := Lib.hid hpb
        clear hbad hpb HOD HBAD
        go_wp2
        rw [← HPOST.out, HPB.out]
        exact bodyPost_ret (I.results_row_tmp2 Tryz.results8 _ rfl (set5_blk HP2.out.r _ _ _ _ _) Tryz.underlying24 rfl (by kernel_rfl)) rfl ⟨none, 0, rfl, words_nil _ _, Nat.le_refl _, set5_below HP2.out.b (Nat.le_refl _) _ _ _ _ _⟩
      · have HST := Lib.hid hst
        clear hst HOD HBAD
        go_wp2
        go_roundw
        case rel => exact ⟨k + 1, by go_num, by omega, by rw [HNX.out], fun j hj => by
            rcases Nat.lt_or_ge j k with h | h
            · exact HOK.out j h
            · have : j = k := by omega
              subst this
              exact HST.out,
          ⟨HP2.out.r.far (by dsimp only; omega) _, by rw [← arrV_set _ _ _ _ hk4, ← HV.out]; exact HP2.out.l.set_ k _, HP2.out.b.setCell (by dsimp only; omega) _⟩⟩
        case measure => simp [intOf]; omega
    · have hkk : k = 4 := by omega
      subst hkk
      have HGD := Lib.hid (parse_good (bad_not HOK.out))
      obtain ⟨ws, hws⟩ : ∃ ws, (I.asmP (behL 4 sl)).1 = ws := ⟨_, rfl⟩
      obtain ⟨n, hn⟩ : ∃ n, (I.asmP (behL 4 sl)).2.1 = n := ⟨_, rfl⟩
      obtain ⟨er, her⟩ : ∃ er, (I.asmP (behL 4 sl)).2.2 = er := ⟨_, rfl⟩
      rw [hws, hn, her] at HASM HGD
      rw [hn] at hN0 hN1
      generalize (⟨(behL 4 sl).toArray⟩ : ByteArray) = tl at *
      clear hws hn her
      go_wp2_with fail
      refine (HASM.out _ HP.out.b).mono ?_
      rintro e W1 ⟨A, cap, rfl, hA, hcap, hb1⟩
      have HP1 := Lib.hid (HP.out.below hb1)
      have HA1 := Lib.hid hA
      have HCAP := Lib.hid hcap
      clear hb1 HP hA hcap HASM
      have hR := HP1.out.r
      have f0 := hR.frozen 0
      have f1 := hR.frozen 1
      have f2 := hR.frozen 2
      have f3 := hR.frozen 3
      have f4 := hR.frozen 4
      obtain ⟨r0, r1, r2, r3, r4, rlt⟩ := rcells' hR
      by_cases he : er = 0
      · subst he
        by_cases hw : ws = []
        · subst hw
          have hgd := HGD.out
          rw [if_pos rfl, if_pos rfl] at hgd
          have HPB := Lib.hid hgd
          have hz : (([] : List Int).length : Int) = 0 := rfl
          clear hgd HGD
          go_wp2
          rw [← HPOST.out, HPB.out]
          exact bodyPost_ret (I.results_row_tmp2 Tryz.results8 _ rfl (set5_blk hR _ _ _ _ _) Tryz.underlying24 rfl (by kernel_rfl)) rfl ⟨none, 0, rfl, words_nil _ _, Nat.le_refl _, set5_below HP1.out.b (Nat.le_refl _) _ _ _ _ _⟩
        · have hgd := HGD.out
          rw [if_pos rfl, if_neg hw] at hgd
          have HPB := Lib.hid hgd
          have hz : ¬ (ws.length : Int) = 0 := by
            intro h
            exact hw (List.eq_nil_of_length_eq_zero (by omega))
          obtain ⟨l0, l1, l2, l3, llt⟩ := I.ccells (show Blk W1 (w.heap.size + 1) 49 #[.int .i64 (valB 0 sl), .int .i64 (valB 1 sl), .int .i64 (valB 2 sl), .int .i64 (valB 3 sl)] from HP1.out.l)
          have hap := words_apart HA1.out hw hR zero_no
          have HAP := Lib.hid hap
          clear hgd HGD hw hap
          go_wp2
          rw [← HPOST.out, HPB.out]
          refine bodyPost_ret (I.results_row_tmp2 Tryz.results8 _ rfl (set5_blk hR _ _ _ _ _) Tryz.underlying24 rfl (by kernel_rfl)) rfl ⟨A, cap, rfl, ?_, HCAP.out, set5_below HP1.out.b (Nat.le_refl _) _ _ _ _ _⟩
          exact rows_same' HA1.out (fun b off e => set5_heap _ _ _ (HAP.out b off e) _ _ _ _ _) (by simp)
      · have hgd := HGD.out
        rw [if_neg he] at hgd
        have HPB := Lib.hid hgd
        have hs4 : 4 + n ≤ 9223372036854775807 := by omega
        have hs5 : -9223372036854775808 ≤ 4 + n := by omega
        clear hgd HGD
        go_wp2
        rw [← HPOST.out, HPB.out]
        exact bodyPost_ret (I.results_row_tmp2 Tryz.results8 _ rfl (set5_blk hR _ _ _ _ _) Tryz.underlying24 rfl (by kernel_rfl)) rfl ⟨none, 0, rfl, words_nil _ _, Nat.le_refl _, set5_below HP1.out.b (Nat.le_refl _) _ _ _ _ _⟩
end Go.Proofs.YtpikgebfeleajaaGreatDoor
