/-
  trace.Read: what a line says. Condition: the tables lie as the program's text, and the library's, lay them.
-/
import Derived.Test.YtpcaeggecojaeaaDoorTrD8
namespace Go.Proofs.YtpcaeggecojaeaaDoor
open Go.RowKit
set_option linter.unusedVariables false
set_option linter.unusedSimpArgs false

/-- The last one of the first n kinds that has this word (none has: 0). -/
def kAt (w : List UInt8) : Nat → Nat
  | 0 => 0
  | n + 1 => if 0 < n ∧ kindW n = w then n else kAt w n
theorem kAt_lt (w : List UInt8) : ∀ n, kAt w n < n + 1
  | 0 => Nat.lt_succ_self 0
  | n + 1 => by
    unfold kAt
    split
    · omega
    · have := kAt_lt w n; omega
def w0L (s : List UInt8) : List UInt8 := (pieces s).getD 0 []
def w1L (s : List UInt8) : List UInt8 := (pieces s).getD 1 []
def w2L (s : List UInt8) : List UInt8 := (pieces s).getD 2 []
def wzL (s : List UInt8) : List UInt8 := (pieces s).getD ((pieces s).length - 1) []
def candK (s : List UInt8) : Nat := kAt (w1L s) 5
/-- What a line of three words or more would say. -/
def cand (s : List UInt8) : S := ⟨atoiV (w0L s), candK s, if candK s = 1 then atoiV (w2L s) else 0, uintV (wzL s)⟩
def readL (s : List UInt8) : Option S := if 3 ≤ (pieces s).length ∧ May (cand s) ∧ lineL (cand s) = s then some (cand s) else none
def seenA : Option S → Array Value
  | some x => x.cells.toArray
  | none => #[.int .i64 0, .int .i64 0, .int .i64 0, .int .u32 0]
def errN {α : Type} : Option α → Int
  | some _ => 0
  | none => 210
theorem seq_true {a b : ByteArray} (h : a = b) : (a.toList == b.toList) = true := by rw [h]; simp
theorem seq_false {a b : ByteArray} (h : a ≠ b) : (a.toList == b.toList) = false := by
  rw [Lib.toList_data, Lib.toList_data, beq_eq_false_iff_ne]
  exact fun he => h (Go.WideShapes.bytes_inj he)

theorem infoWords : (Tryd.prog.info? 59).map (·.size) = some kindArr.size := by kernel_rfl
theorem lt5 {k : Nat} (h : k < 5) : k = 0 ∨ k = 1 ∨ k = 2 ∨ k = 3 ∨ k = 4 := by omega
theorem index_words {k : Nat} (hk : k < 5) (w : World) : (Instr.index 59 (.agg kindArr) (.int .i64 k)).run Tryd.prog w = .ok (.string ⟨(kindW k).toArray⟩) w := by
  rcases lt5 hk with rfl | rfl | rfl | rfl | rfl <;> kernel_rfl
theorem infoSeen : (Tryd.prog.info? 27).map (·.size) = some 4 := by kernel_rfl

/-- A line of fewer than three words is none. -/
theorem read_short {w : World} (hM : MaxL w) (s : ByteArray) (hs : s.size ≤ 1000000) (hl : (pieces s.data.toList).length < 3) :
    Calls Tryd.prog 16 #[.string s] w fun e w' => e = .returned (.tuple #[.agg (seenA none), .int .i64 210]) ∧ Below w.heap.size w w' := by
  have HS := Lib.hid (fun W (hW : Below w.heap.size w W) => split_any (hM.below hW) s (by omega))
  have hb0 := (Below.refl w.heap.size w).alloc (Nat.le_refl _) (.cells #[.int .i64 0, .int .i64 0, .int .i64 0, .int .u32 0] 27)
  have h3 : ((pieces s.data.toList).length : Int) < 3 := by omega
  generalize pieces s.data.toList = ws at *
  clear hM
  go_enter Tryd.func16, Tryd.ntmps16
  go_wp2_with fail
  refine (HS.out _ hb0).mono ?_
  rintro e w1 ⟨rfl, rfl⟩
  clear HS
  go_wp2
  refine bodyPost_ret (results_row_tmp Tryd.results16 _ rfl (g := w.heap.size) (t := 27) (cs := #[.int .i64 0, .int .i64 0, .int .i64 0, .int .u32 0]) ?_ Tryd.underlying27 rfl (by kernel_rfl)) rfl ⟨rfl, ?_⟩
  · exact (Blk.new _ _ _).alloc _
  · exact hb0.alloc (by simp) _

/-! ## a line of three words or more -/
theorem set4_blk {W : World} {b : Nat} {t : TypeId} {v0 v1 v2 v3 : Value} (h : Blk W b t #[v0, v1, v2, v3]) (u0 u1 u2 u3 : Value) : Blk ((((W.setCell ⟨b, 0, none⟩ u0).setCell ⟨b, 1, none⟩ u1).setCell ⟨b, 2, none⟩ u2).setCell ⟨b, 3, none⟩ u3) b t #[u0, u1, u2, u3] := by
  have := (((h.set_ 0 u0).set_ 1 u1).set_ 2 u2).set_ 3 u3
  simpa using this
theorem set4_below {B b : Nat} {w W : World} (h : Below B w W) (hb : B ≤ b) (u0 u1 u2 u3 : Value) : Below B w ((((W.setCell ⟨b, 0, none⟩ u0).setCell ⟨b, 1, none⟩ u1).setCell ⟨b, 2, none⟩ u2).setCell ⟨b, 3, none⟩ u3) :=
  (((h.setCell (p := ⟨b, 0, none⟩) hb u0).setCell (p := ⟨b, 1, none⟩) hb u1).setCell (p := ⟨b, 2, none⟩) hb u2).setCell (p := ⟨b, 3, none⟩) hb u3

theorem split_own {w : World} (hM : MaxL w) (s : ByteArray) (hs : s.size < 4294967281) :
    Calls Tryd.prog 34 #[.string s, .string ⟨#[32]⟩] w fun e w' => ∃ gl, e = .returned (.slice (some ⟨gl, 0, none⟩) (pieces s.data.toList).length (pieces s.data.toList).length) ∧ Blk w' gl 9 ((pieces s.data.toList).map strV).toArray ∧ w.heap.size ≤ gl ∧ Below w.heap.size w w' :=
  (split_any hM s hs).mono fun e w' ⟨he, hw⟩ => ⟨_, he, hw ▸ Blk.new _ _ _, Nat.le_refl _, hw ▸ (Below.refl _ _).alloc (Nat.le_refl _) _⟩

structure RS (w : World) (gl br bx : Nat) (ws : List (List UInt8)) (p k c v : Int) (W : World) : Prop where
  l : Blk W gl 9 (ws.map strV).toArray
  r : Blk W br 27 #[.int .i64 0, .int .i64 0, .int .i64 0, .int .u32 0]
  x : Blk W bx 27 #[.int .i64 p, .int .i64 k, .int .i64 c, .int .u32 v]
  b : Below w.heap.size w W
  h1 : gl ≠ bx
  h2 : br ≠ bx
  h3 : w.heap.size ≤ bx
section
variable {w W W' : World} {gl br bx : Nat} {ws : List (List UInt8)} {p k c v : Int}
theorem RS.step (h : RS w gl br bx ws p k c v W) (hb : Below W.heap.size W W') : RS w gl br bx ws p k c v W' :=
  ⟨h.l.below hb h.l.lt, h.r.below hb h.r.lt, h.x.below hb h.x.lt, h.b.trans (hb.mono h.b.size), h.h1, h.h2, h.h3⟩
theorem RS.set0 (h : RS w gl br bx ws p k c v W) (y : Int) : RS w gl br bx ws y k c v (W.setCell ⟨bx, 0, none⟩ (.int .i64 y)) :=
  ⟨h.l.far h.h1 _, h.r.far h.h2 _, h.x.set_ 0 _, h.b.setCell h.h3 _, h.h1, h.h2, h.h3⟩
theorem RS.set1 (h : RS w gl br bx ws p k c v W) (y : Int) : RS w gl br bx ws p y c v (W.setCell ⟨bx, 1, none⟩ (.int .i64 y)) :=
  ⟨h.l.far h.h1 _, h.r.far h.h2 _, h.x.set_ 1 _, h.b.setCell h.h3 _, h.h1, h.h2, h.h3⟩
theorem RS.set2 (h : RS w gl br bx ws p k c v W) (y : Int) : RS w gl br bx ws p k y v (W.setCell ⟨bx, 2, none⟩ (.int .i64 y)) :=
  ⟨h.l.far h.h1 _, h.r.far h.h2 _, h.x.set_ 2 _, h.b.setCell h.h3 _, h.h1, h.h2, h.h3⟩
theorem RS.set3 (h : RS w gl br bx ws p k c v W) (y : Int) : RS w gl br bx ws p k c y (W.setCell ⟨bx, 3, none⟩ (.int .u32 y)) :=
  ⟨h.l.far h.h1 _, h.r.far h.h2 _, h.x.set_ 3 _, h.b.setCell h.h3 _, h.h1, h.h2, h.h3⟩
theorem RS.word (h : RS w gl br bx ws p k c v W) {j : Nat} (hj : j < ws.length) : W.cell? ⟨gl, j, none⟩ = some (.string ⟨(ws.getD j []).toArray⟩) := by
  rw [h.l.cell, List.getElem?_toArray, List.getElem?_map, List.getElem?_eq_getElem hj, List.getD_eq_getElem?_getD, List.getElem?_eq_getElem hj]
  rfl
end

set_option maxRecDepth 100000 in
set_option maxHeartbeats 8000000 in
theorem read_long {w : World} (hG : Ground w) (s : ByteArray) (hs : s.size ≤ 1000000) (hl : ¬ (pieces s.data.toList).length < 3) :
    Calls Tryd.prog 16 #[.string s] w fun e w' => e = .returned (.tuple #[.agg (seenA (readL s.data.toList)), .int .i64 (errN (readL s.data.toList))]) ∧ Below w.heap.size w w' := by
  have HS := Lib.hid (fun W (hW : Below w.heap.size w W) => split_own (hG.below hW).max s (by omega))
  have HG := Lib.hid hG
  have hb0 := (Below.refl w.heap.size w).alloc (Nat.le_refl _) (.cells #[.int .i64 0, .int .i64 0, .int .i64 0, .int .u32 0] 27)
  have hr0 := Blk.new w 27 #[.int .i64 0, .int .i64 0, .int .i64 0, .int .u32 0]
  obtain ⟨ws, hws⟩ : ∃ ws, ws = pieces s.data.toList := ⟨_, rfl⟩
  rw [← hws] at HS hl
  have HWS := Lib.hid hws
  have h3 : ¬ (ws.length : Int) < 3 := by omega
  have hlen : ws.length ≤ 1000001 := by
    rw [hws, pieces_len]
    have := List.count_le_length (a := (32 : UInt8)) (l := s.data.toList)
    have e : s.data.toList.length = s.size := by rw [Array.length_toList]; rfl
    omega
  clear hG hws
  obtain ⟨post, hpost⟩ : ∃ post : Ending → World → Prop, post = fun e w' => e = .returned (.tuple #[.agg (seenA (readL s.data.toList)), .int .i64 (errN (readL s.data.toList))]) ∧ Below w.heap.size w w' := ⟨_, rfl⟩
  rw [← hpost]
  have HPOST := Lib.hid hpost
  clear hpost
  go_enter Tryd.func16, Tryd.ntmps16
  go_wp2_with fail
  refine (HS.out _ hb0).mono ?_
  rintro e W2 ⟨gl, rfl, hl2, hgl, hb2⟩
  have hr2 := hr0.below hb2 hr0.lt
  have hbx : w.heap.size < W2.heap.size := Nat.lt_of_lt_of_le hr0.lt hb2.size
  have hB2 := hb0.trans (hb2.mono hb0.size)
  have hR0 : RS w gl w.heap.size W2.heap.size ws 0 0 0 0 (W2.alloc (.cells #[.int .i64 0, .int .i64 0, .int .i64 0, .int .u32 0] 27)) :=
    ⟨hl2.alloc _, hr2.alloc _, Blk.new _ _ _, hB2.alloc hB2.size _, by have := hl2.lt; omega, by omega, by omega⟩
  clear HS hb0 hr0 hb2 hr2 hB2 hl2
  have hwl : ∀ j, (⟨(ws.getD j []).toArray⟩ : ByteArray).size ≤ 1000000 := fun j => by
    have h := word_len s.data.toList j
    rw [← HWS.out] at h
    have e : s.data.toList.length = s.size := by rw [Array.length_toList]; rfl
    have e2 : (⟨(ws.getD j []).toArray⟩ : ByteArray).size = (ws.getD j []).length := by show (ws.getD j []).toArray.size = _; simp
    omega
  have HA := fun W (hW : Below w.heap.size w W) (j : Nat) => show Calls Tryd.prog 35 #[.string ⟨(ws.getD j []).toArray⟩] W fun e w' => ∃ er, e = .returned (.tuple #[.int .i64 (atoiV (ws.getD j [])), er]) ∧ Below W.heap.size W w' from
    (atoi_any (HG.out.below hW).errs _ (by have := hwl j; omega)).mono fun e w' ⟨er, h1, _, h2⟩ => ⟨er, h1, h2⟩
  have HU := fun W (hW : Below w.heap.size w W) (j : Nat) => show Calls Tryd.prog 36 #[.string ⟨(ws.getD j []).toArray⟩, .int .i64 10, .int .i64 32] W fun e w' => ∃ er, e = .returned (.tuple #[.int .u64 (uintV (ws.getD j [])), er]) ∧ Below W.heap.size W w' from
    parse32_any (HG.out.below hW).errs _ (by have := hwl j; omega)
  have HA0 := fun W hW => HA W hW 0
  have HA2 := fun W hW => HA W hW 2
  have HUZ := fun W hW => HU W hW (ws.length - 1)
  have HC0 := fun W (p k c v : Int) (hR : RS w gl w.heap.size W2.heap.size ws p k c v W) => hR.word (j := 0) (by omega)
  have HC1 := fun W (p k c v : Int) (hR : RS w gl w.heap.size W2.heap.size ws p k c v W) => hR.word (j := 1) (by omega)
  have HC2 := fun W (p k c v : Int) (hR : RS w gl w.heap.size W2.heap.size ws p k c v W) => hR.word (j := 2) (by omega)
  have HCZ := fun W (p k c v : Int) (hR : RS w gl w.heap.size W2.heap.size ws p k c v W) => hR.word (j := ws.length - 1) (by omega)
  have HR := (show ∀ (P C U : Int), P = atoiV (ws.getD 0 []) → C = atoiV (ws.getD 2 []) → U = uintV (ws.getD (ws.length - 1) []) →
    cand s.data.toList = ⟨P, kAt (ws.getD 1 []) 5, if kAt (ws.getD 1 []) 5 = 1 then C else 0, U⟩ from by
      rintro P C U rfl rfl rfl
      rw [HWS.out]
      rfl)
  obtain ⟨P, hP⟩ : ∃ P, P = atoiV (ws.getD 0 []) := ⟨_, rfl⟩
  obtain ⟨C, hC⟩ : ∃ C, C = atoiV (ws.getD 2 []) := ⟨_, rfl⟩
  obtain ⟨U, hU⟩ : ∃ U, U = uintV (ws.getD (ws.length - 1) []) := ⟨_, rfl⟩
  obtain ⟨s0, hs0⟩ : ∃ s0 : ByteArray, s0 = ⟨(ws.getD 0 []).toArray⟩ := ⟨_, rfl⟩
  obtain ⟨s1, hs1⟩ : ∃ s1 : ByteArray, s1 = ⟨(ws.getD 1 []).toArray⟩ := ⟨_, rfl⟩
  obtain ⟨s2, hs2⟩ : ∃ s2 : ByteArray, s2 = ⟨(ws.getD 2 []).toArray⟩ := ⟨_, rfl⟩
  obtain ⟨sz, hsz⟩ : ∃ sz : ByteArray, sz = ⟨(ws.getD (ws.length - 1) []).toArray⟩ := ⟨_, rfl⟩
  rw [← hP, ← hs0] at HA0
  rw [← hC, ← hs2] at HA2
  rw [← hU, ← hsz] at HUZ
  rw [← hs0] at HC0
  rw [← hs1] at HC1
  rw [← hs2] at HC2
  rw [← hsz] at HCZ
  have hUr : 0 ≤ U ∧ U ≤ 4294967295 := hU ▸ uintV_range _
  obtain ⟨q1, hq1⟩ : ∃ q1, q1 = ws.getD 1 [] := ⟨_, rfl⟩
  rw [← hq1] at hs1 HR
  have HCAND := Lib.hid (HR P C U hP hC hU)
  have HS1 := Lib.hid hs1
  clear hq1
  have HHA0 := Lib.hid HA0
  have HHA2 := Lib.hid HA2
  have HHUZ := Lib.hid HUZ
  have HHC0 := Lib.hid HC0
  have HHC1 := Lib.hid HC1
  have HHC2 := Lib.hid HC2
  have HHCZ := Lib.hid HCZ
  clear HA HU HA0 HA2 HUZ HC0 HC1 HC2 HCZ hP hC hU hs0 hs1 hs2 hsz HR hwl
  have hc0 := HHC0.out _ _ _ _ _ hR0
  go_wp2_with fail
  refine (HHA0.out _ hR0.b).mono ?_
  rintro e W3 ⟨er, rfl, hb3⟩
  have hR3 := hR0.step hb3
  clear hR0 hb3 hc0
  have hcx := ccells hR3.x
  have hfx := hR3.x.frozen 0
  have hR4 := hR3.set0 P
  obtain ⟨tw, hw4⟩ := (HG.out.below hR4.b).words
  have HW4 := Lib.hid hw4
  clear hw4
  go_wp2_with (refine wpList_load_row rfl 59 _ rfl 0 rfl tw kindArr (0, 0) _ HW4.out Tryd.underlying59 rfl infoWords ?_)
  clear hcx hfx hR3 HW4
  generalize W3.setCell ⟨W2.heap.size, 0, none⟩ (.int .i64 P) = W4 at *
  have HIX := Lib.hid (fun (n : Nat) (hn : n < 5) (w : World) => index_words hn w)
  generalize W2.heap.size = bx at *
  go_loopw [28] (fun i wr => ∃ n : Nat, i = .int .i64 (n : Int) ∧ n ≤ 5 ∧ RS w gl w.heap.size bx ws P (kAt q1 n : Nat) 0 0 wr) (fun i _ => 5 - (intOf i).toNat)
  case atStart => exact ⟨0, rfl, by omega, hR4⟩
  case round =>
    obtain ⟨n, rfl, hn, hR⟩ := hrel
    clear hR4
    by_cases hn5 : n < 5
    · have hnb : (n : Int) < 5 := by omega
      have hix := fun w => HIX.out n hn5 w
      have hc1 := HHC1.out _ _ _ _ _ hR
      by_cases hn0 : 0 < n
      · have hnp : (0 : Int) < (n : Int) := by omega
        by_cases hk : kindW n = q1
        · have hb : ((⟨(kindW n).toArray⟩ : ByteArray).toList == s1.toList) = true := seq_true (by rw [HS1.out, hk])
          have hcx := ccells hR.x
          have hfx := hR.x.frozen 1
          have HN := Lib.hid (show kAt q1 (n + 1) = n from by rw [kAt, if_pos ⟨hn0, hk⟩])
          have HRN := Lib.hid (hR.set1 n)
          generalize (⟨(kindW n).toArray⟩ : ByteArray) = sk at *
          clear hR hk
          go_wp2
          go_roundw
          case rel => exact ⟨n + 1, by go_num, by omega, by rw [HN.out]; exact HRN.out⟩
          case measure => simp [intOf]; omega
        · have hb : ((⟨(kindW n).toArray⟩ : ByteArray).toList == s1.toList) = false := seq_false (by rw [HS1.out]; intro h; injection h with h; exact hk (by simpa using congrArg Array.toList h))
          have HN := Lib.hid (show kAt q1 (n + 1) = kAt q1 n from by rw [kAt, if_neg (fun h => hk h.2)])
          have HRN := Lib.hid hR
          generalize (⟨(kindW n).toArray⟩ : ByteArray) = sk at *
          clear hR hk
          go_wp2
          go_roundw
          case rel => exact ⟨n + 1, by go_num, by omega, by rw [HN.out]; exact HRN.out⟩
          case measure => simp [intOf]; omega
      · have hnp : ¬ (0 : Int) < (n : Int) := by omega
        have HN := Lib.hid (show kAt q1 (n + 1) = kAt q1 n from by rw [kAt, if_neg (fun h => hn0 h.1)])
        have HRN := Lib.hid hR
        generalize (⟨(kindW n).toArray⟩ : ByteArray) = sk at *
        clear hR
        go_wp2
        go_roundw
        case rel => exact ⟨n + 1, by go_num, by omega, by rw [HN.out]; exact HRN.out⟩
        case measure => simp [intOf]; omega
    · have hn' : n = 5 := by omega
      subst hn'
      have hcx := ccells hR.x
      obtain ⟨u, rfl⟩ : ∃ u : Nat, U = u := ⟨U.toNat, by omega⟩
      have hu : u < 4294967296 := by omega
      generalize kAt q1 5 = K0 at *
      by_cases hk : K0 = 1
      case' pos =>
        have hkb : ((K0 : Int) == 1) = true := by rw [hk]; rfl
        have hc2 := HHC2.out _ _ _ _ _ hR
        go_wp2_with fail
        refine (HHA2.out _ hR.b).mono ?_
        rintro e W5 ⟨er5, rfl, hb5⟩
        have hR5 := hR.step hb5
        have HRq := Lib.hid (hR5.set2 C)
        have hcz := HHCZ.out _ _ _ _ _ HRq.out
        have hfx := hR5.x.frozen 2
        have HCF := Lib.hid (show cand s.data.toList = ⟨P, K0, C, u⟩ from by rw [HCAND.out, if_pos hk])
        clear hR hb5 hcx hc2 hk
        have hcx := ccells hR5.x
        clear hR5
        go_wp2_with fail
        have hRq := HRq.out
        generalize W5.setCell ⟨bx, 2, none⟩ (.int .i64 C) = Wq at *
        clear hcx hfx
        generalize C = c' at *
      case' neg =>
        have hkb : ((K0 : Int) == 1) = false := beq_eq_false_iff_ne.2 (by omega)
        have hcz := HHCZ.out _ _ _ _ _ hR
        have HCF := Lib.hid (show cand s.data.toList = ⟨P, K0, 0, u⟩ from by rw [HCAND.out, if_neg hk])
        have HRq := Lib.hid hR
        clear hk hR
        go_wp2_with fail
        have hRq := HRq.out
        clear hcx
        generalize wr = Wq at *
        obtain ⟨c', hc'⟩ : ∃ c' : Int, c' = 0 := ⟨_, rfl⟩
        rw [← hc'] at hRq HRq HCF
        have HC0' := Lib.hid hc'
        clear hc'
      all_goals
        refine (HHUZ.out _ hRq.b).mono ?_
        rintro e W6 ⟨er6, rfl, hb6⟩
        have hR6 := hRq.step hb6
        have hcx := ccells hR6.x
        have hfx := hR6.x.frozen 3
        have HR7 := Lib.hid (hR6.set3 u)
        have hcx7 := ccells HR7.out.x
        clear hRq HRq hb6 hcz hR6
        by_cases hm : May ⟨P, K0, c', u⟩
        · obtain ⟨sl, hsl⟩ : ∃ sl : ByteArray, sl = ⟨(lineL ⟨P, K0, c', u⟩).toArray⟩ := ⟨_, rfl⟩
          have HL := Lib.hid (show Calls Tryd.prog 13 #[.agg #[.int .i64 P, .int .i64 K0, .int .i64 c', .int .u32 u]] _ fun e w' => e = .returned (.tuple #[.string sl, .int .i64 0]) ∧ Below _ _ w' from by rw [hsl]; exact line_yes (HG.out.below HR7.out.b) P c' K0 u hu hm)
          by_cases heq : sl = s
          · have hb := seq_true heq
            have HF := Lib.hid (show readL s.data.toList = some ⟨P, K0, c', u⟩ from by
              have h1 : lineL ⟨P, K0, c', u⟩ = s.data.toList := by rw [← heq, hsl]
              unfold readL
              rw [if_pos ⟨by rw [← HWS.out]; omega, by rw [HCF.out]; exact hm, by rw [HCF.out]; exact h1⟩, HCF.out])
            clear hsl hm heq
            go_wp2_with fail
            refine HL.out.mono ?_
            rintro e W8 ⟨rfl, hb8⟩
            have hR8 := HR7.out.step hb8
            clear hb8 hcx hcx7 hfx
            obtain ⟨x0, x1, x2, x3⟩ := ccells hR8.x
            obtain ⟨r0, r1, r2, r3⟩ := ccells hR8.r
            have g0 := hR8.r.frozen 0
            have g1 := hR8.r.frozen 1
            have g2 := hR8.r.frozen 2
            have g3 := hR8.r.frozen 3
            have HR8 := Lib.hid hR8
            clear hR8
            go_wp2
            exact bodyPost_ret (results_row_tmp Tryd.results16 _ rfl (set4_blk HR8.out.r (.int .i64 P) (.int .i64 K0) (.int .i64 c') (.int .u32 u)) Tryd.underlying27 rfl (by kernel_rfl)) rfl (by rw [HPOST.out, HF.out]; exact ⟨rfl, set4_below HR8.out.b (Nat.le_refl _) _ _ _ _⟩)
          · have hb := seq_false heq
            have HF := Lib.hid (show readL s.data.toList = none from by
              unfold readL
              rw [if_neg]
              rintro ⟨_, _, h⟩
              rw [HCF.out] at h
              exact heq (by rw [hsl, h]))
            clear hsl hm heq
            go_wp2_with fail
            refine HL.out.mono ?_
            rintro e W8 ⟨rfl, hb8⟩
            have hR8 := HR7.out.step hb8
            clear hb8 hcx hcx7 hfx
            obtain ⟨r0, r1, r2, r3⟩ := ccells hR8.r
            have g0 := hR8.r.frozen 0
            have g1 := hR8.r.frozen 1
            have g2 := hR8.r.frozen 2
            have g3 := hR8.r.frozen 3
            have HR8 := Lib.hid hR8
            clear hR8
            go_wp2
            exact bodyPost_ret (results_row_tmp Tryd.results16 _ rfl (set4_blk HR8.out.r (.int .i64 0) (.int .i64 0) (.int .i64 0) (.int .u32 0)) Tryd.underlying27 rfl (by kernel_rfl)) rfl (by rw [HPOST.out, HF.out]; exact ⟨rfl, set4_below HR8.out.b (Nat.le_refl _) _ _ _ _⟩)
        · have HL := Lib.hid (fun W => line_no (w := W) P K0 c' u (by omega) hm)
          have HF := Lib.hid (show readL s.data.toList = none from by
            unfold readL
            rw [if_neg]
            rintro ⟨_, h, _⟩
            rw [HCF.out] at h
            exact hm h)
          clear hm
          go_wp2_with fail
          refine (HL.out _).mono ?_
          rintro e W8 ⟨rfl, hb8⟩
          have hR8 := HR7.out.step hb8
          clear hb8 hcx hcx7 hfx
          obtain ⟨r0, r1, r2, r3⟩ := ccells hR8.r
          have g0 := hR8.r.frozen 0
          have g1 := hR8.r.frozen 1
          have g2 := hR8.r.frozen 2
          have g3 := hR8.r.frozen 3
          have HR8 := Lib.hid hR8
          clear hR8
          go_wp2
          exact bodyPost_ret (results_row_tmp Tryd.results16 _ rfl (set4_blk HR8.out.r (.int .i64 0) (.int .i64 0) (.int .i64 0) (.int .u32 0)) Tryd.underlying27 rfl (by kernel_rfl)) rfl (by rw [HPOST.out, HF.out]; exact ⟨rfl, set4_below HR8.out.b (Nat.le_refl _) _ _ _ _⟩)

theorem read_any {w : World} (hG : Ground w) (s : ByteArray) (hs : s.size ≤ 1000000) :
    Calls Tryd.prog 16 #[.string s] w fun e w' => e = .returned (.tuple #[.agg (seenA (readL s.data.toList)), .int .i64 (errN (readL s.data.toList))]) ∧ Below w.heap.size w w' := by
  by_cases hl : (pieces s.data.toList).length < 3
  · have h : readL s.data.toList = none := by
      unfold readL
      rw [if_neg]
      omega
    rw [h]
    exact read_short hG.max s hs hl
  · exact read_long hG s hs hl
end Go.Proofs.YtpcaeggecojaeaaDoor
