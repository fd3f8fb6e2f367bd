/-
  call.Program: a program that makes calls. Condition: the tables lie as the program's text, and the library's, lay them; at most a million calls.
-/
import Derived.Test.YthmjddnccgiinaaDoorCa8
import Derived.Test.YthmjddnccgiinaaDoorRowMem
import Derived.Test.YthmjddnccgiinaaDoorStr2
namespace Go.Proofs.YthmjddnccgiinaaDoor
open Go.RowKit Go.Shelf
set_option linter.unusedVariables false
set_option linter.unusedSimpArgs false
attribute [local go_sem] Oper.semAt_some

abbrev CallsAt (w : World) (A : Option Addr) (l : List Cl) : Prop := RowsAt w A 4 (l.map Cl.cells)
theorem call_at {w : World} {A : Option Addr} {l : List Cl} (h : CallsAt w A l) {i : Nat} {x : Cl} (hx : l[i]? = some x) : ∃ b off, A = some ⟨b, off, none⟩ ∧ b < w.heap.size ∧
    w.cell? ⟨b, off + i * 4, none⟩ = some (.int .i64 x.n) ∧ w.cell? ⟨b, off + i * 4 + 1, none⟩ = some (.int .u32 x.a) ∧ w.cell? ⟨b, off + i * 4 + 2, none⟩ = some (.int .u32 x.b) ∧ w.cell? ⟨b, off + i * 4 + 3, none⟩ = some (.int .u32 x.c) := by
  obtain ⟨b, off, hA, hb, hc⟩ := h i x.cells (by rw [List.getElem?_map, hx]; rfl)
  exact ⟨b, off, hA, hb, hc 0 _ rfl, hc 1 _ rfl, hc 2 _ rfl, hc 3 _ rfl⟩
def FineC (x : Cl) : Prop := MayC x ∧ x.a ≤ 32767 ∧ x.b ≤ 32767 ∧ x.c ≤ 32767
instance (x : Cl) : Decidable (FineC x) := by unfold FineC; infer_instance
/-- The line of an argument, of the number, of a call; a program's text. -/
def argP (g : Ag) : List UInt8 := [108, 105, 32] ++ Lib.itoa (1 + (g.1.val : Int)) ++ [32] ++ wordG g ++ [10]
def numP (n : Int) : List UInt8 := [108, 105, 32, 48, 32] ++ Lib.itoa n ++ [10]
def callP (x : Cl) : List UInt8 := numP x.n ++ (agL x.n x.a x.b x.c).flatMap argP ++ [115, 121, 115, 10]
def progL (l : List Cl) : List UInt8 := l.flatMap callP
def progO (l : List Cl) : Option (List UInt8) := if ∀ x ∈ l, FineC x then some (progL l) else none
theorem prog_take {l : List Cl} {k : Nat} {x : Cl} (h : l[k]? = some x) : progL (l.take (k + 1)) = progL (l.take k) ++ callP x := by
  unfold progL
  rw [List.take_add_one, h]
  simp
theorem argP_len {g : Ag} (h : g.2 ≤ 4294967295) : (argP g).length ≤ 50 := by
  unfold argP
  have h1 := itoa_len (1 + (g.1.val : Int)) (by omega) (by have := g.1.isLt; omega)
  have h2 := wordG_len h
  simp only [List.length_append, List.length_cons, List.length_nil]
  omega
theorem flat_len {α : Type} (f : α → List UInt8) (k : Nat) : ∀ (l : List α), (∀ x ∈ l, (f x).length ≤ k) → (l.flatMap f).length ≤ l.length * k
  | [], _ => by simp
  | x :: l, h => by
    have h1 := flat_len f k l (fun y hy => h y (List.mem_cons_of_mem _ hy))
    have h2 := h x (List.mem_cons_self ..)
    rw [List.flatMap_cons, List.length_append, List.length_cons, Nat.succ_mul]
    omega
theorem numP_len {n : Int} (h0 : -9223372036854775808 ≤ n) (h1 : n ≤ 9223372036854775807) : (numP n).length ≤ 30 := by
  unfold numP
  have h2 := itoa_len n h0 h1
  simp only [List.length_append, List.length_cons, List.length_nil]
  omega
theorem callP_len {x : Cl} (hr : RangeC x) (hm : MayC x) : (callP x).length ≤ 200 := by
  unfold callP
  have h0 := may_num hm.1
  have h1 := numP_len (n := x.n) (by omega) (by omega)
  have h2 := flat_len argP 50 (agL x.n x.a x.b x.c) (fun g hg => argP_len (agL_range hr g hg).2)
  rw [agL_len] at h2
  have h3 := agN_le x.n
  simp only [List.length_append, List.length_cons, List.length_nil]
  omega
theorem IsB.walks {w w' : World} {B b : Nat} {l : List UInt8} {row : Option Nat} (h : IsB w B b l) (hg : w.grownBy w' row) (hr : ∀ r, row = some r → ∃ o : Obj, w.heap[r]? = some o ∧ o.isCells = false) : IsB w' B b l := by
  have hblk : ∀ (k : Nat) (o : Obj), w.heap[k]? = some o → o.isCells = true → w'.heap[k]? = some o := fun k o hk ho => by
    refine (hg.block k (Array.getElem?_eq_some_iff.1 hk).1 (fun e => ?_)).trans hk
    obtain ⟨o', h1, h2⟩ := hr k e.symm
    rw [hk] at h1
    injection h1 with h1
    subst h1
    rw [ho] at h2
    cases h2
  have hk : ∀ p, Lib.BuilderAtF 76 5 B b p (Lib.byteCells l) w → Lib.BuilderAtF 76 5 B b p (Lib.byteCells l) w' := by
    rintro p ⟨hB, v, h1, hown, hne⟩
    refine ⟨hB, v, hblk b _ h1 rfl, ⟨hown.1, ?_⟩, hne⟩
    rcases hown.2 with hn | ⟨g, cap, cur, fz, hv, hbg, hg', rest⟩
    · exact .inl hn
    · exact .inr ⟨g, cap, cur, fz, hv, hbg, hblk g _ hg' rfl, rest⟩
  exact h.elim (fun x => .inl (hk _ x)) (fun x => .inr (hk _ x))
theorem isB_own {B b : Nat} {α : Type} (f : α → List UInt8) : Own (fun (s : α) W => IsB W B b (f s)) := fun s W W' row h hg hr => h.walks hg hr
theorem isB_cells {w : World} {B b : Nat} {l : List UInt8} (h : IsB w B b l) : ∃ cs fz, w.heap[b]? = some (.cells cs 76 fz) := by
  rcases h with h | h
  · obtain ⟨_, v, h, _⟩ := h; exact ⟨_, _, h⟩
  · obtain ⟨_, v, h, _⟩ := h; exact ⟨_, _, h⟩
/-- What a builder's turn leaves of marks, and of another block. -/
theorem kept_from {w w' : World} {B b n : Nat} {l : List UInt8} (h : IsB w B b l) (hb : Below n w w') (hk : Kept b w w') : KeepsFrom n w w' := ⟨hb.size, fun k o _ hko ho => hk k o hko (fun e => by
    injection e with e
    subst e
    obtain ⟨cs, fz, hc⟩ := isB_cells h
    rw [hko] at hc
    injection hc with hc
    subst hc
    cases ho) (fun c fz e => by subst e; cases ho)⟩
theorem kept_blk {w w' : World} {b g : Nat} {cs : Array Value} (hk : Kept b w w') (hg : Blk w g 27 cs) (hne : g ≠ b) : Blk w' g 27 cs :=
  hk g _ hg (fun e => hne (by injection e)) (fun c fz e => by injection e with _ e2; exact absurd e2 (by decide))

/-- The marks that loops over functions have left: each in its block, no two the same. -/
def Marks (B : Nat) (W : World) (ds : List Deferred) : Prop :=
  (∀ d ∈ ds, ∃ r, d.target = .collected r ∧ B ≤ r ∧ r < W.heap.size ∧ W.heap[r]? = some (.deferred (some []))) ∧ ds.Pairwise fun d d' => d.target ≠ d'.target
theorem Marks.nil (B : Nat) (W : World) : Marks B W [] := ⟨fun d h => (by cases h), List.Pairwise.nil⟩
theorem marks_cons {B D : Nat} {W W0 : World} {ds : List Deferred} {a : Array Value} (h0 : Marks B W0 ds) (h : Marks B W ds) (hD : W0.heap.size ≤ D) (hB : B ≤ D) (hK : W.heap[D]? = some (.deferred (some []))) : Marks B W ({ target := .collected D, args := a } :: ds) := by
  refine ⟨fun d hd => ?_, List.Pairwise.cons (fun d hd e => ?_) h.2⟩
  · rcases List.mem_cons.1 hd with rfl | hd
    · exact ⟨D, rfl, hB, (Array.getElem?_eq_some_iff.1 hK).1, hK⟩
    · exact h.1 d hd
  · obtain ⟨r, h1, _, h3, _⟩ := h0.1 d hd
    rw [h1] at e
    injection e with e
    omega
theorem Marks.grown {B C : Nat} {W W' : World} {ds : List Deferred} {row : Option Nat} (h : Marks B W ds) (hC : ∀ d ∈ ds, ∀ r, d.target = .collected r → r < C) (hg : W.grownBy W' row) (hr : ∀ r, row = some r → C ≤ r) : Marks B W' ds := by
  refine ⟨fun d hd => ?_, h.2⟩
  obtain ⟨r, h1, h2, h3, h4⟩ := h.1 d hd
  have h5 := hC d hd r h1
  refine ⟨r, h1, h2, Nat.lt_of_lt_of_le h3 hg.size, (hg.block r h3 (fun e => ?_)).trans h4⟩
  have := hr r e.symm
  omega
theorem Marks.below {B : Nat} {W W' : World} {ds : List Deferred} (h : Marks B W ds) (hb : Below W.heap.size W W') : Marks B W' ds := by
  refine ⟨fun d hd => ?_, h.2⟩
  obtain ⟨r, h1, h2, h3, h4⟩ := h.1 d hd
  exact ⟨r, h1, h2, Nat.lt_of_lt_of_le h3 hb.size, (hb.block r h3).trans h4⟩
theorem Marks.kept {B n : Nat} {W W' : World} {ds : List Deferred} (h : Marks B W ds) (hn : n ≤ B) (hk : KeepsFrom n W W') : Marks B W' ds := by
  refine ⟨fun d hd => ?_, h.2⟩
  obtain ⟨r, h1, h2, h3, h4⟩ := h.1 d hd
  exact ⟨r, h1, h2, Nat.lt_of_lt_of_le h3 hk.1, hk.2 r _ (by omega) h4 rfl⟩
theorem Marks.lt {B : Nat} {W : World} {ds : List Deferred} (h : Marks B W ds) : ∀ d ∈ ds, ∀ r, d.target = .collected r → r < W.heap.size := fun d hd r e => by
  obtain ⟨r', h1, _, h3, _⟩ := h.1 d hd
  rw [h1] at e
  injection e with e
  omega
/-- A function with marks leaves. -/
theorem leaves_marks {F : Fence} {n n₀ B : Nat} {P : Program} {fn : Func} {tmps : Array Value} {R : Ending → World → Prop} (hB : n₀ ≤ B) : ∀ (ds : List Deferred) (W : World), Marks B W ds →
    (∀ W', Below n₀ W W' → LeavesIn F n P fn tmps R [] .returning W') → LeavesInM F n P fn tmps R ds .returning W
  | [], W, _, hf => hf W (Below.refl _ _)
  | d :: ds, W, h, hf => by
    obtain ⟨r, h1, h2, h3, h4⟩ := h.1 d (List.mem_cons_self ..)
    have hbl : Below n₀ W (W.putObj r (.deferred none)) := (Below.refl n₀ W).grown (grownBy_putObj' W r _) (by omega) (fun k e => by cases e; omega)
    refine ⟨by simp, .inl ⟨r, _, h1, run_takeDeferred h4, leaves_marks hB ds _ ⟨fun d' hd' => ?_, (List.pairwise_cons.1 h.2).2⟩ (fun W' hW' => hf W' (hbl.trans hW'))⟩⟩
    obtain ⟨r', k1, k2, k3, k4⟩ := h.1 d' (List.mem_cons_of_mem _ hd')
    have hne : r' ≠ r := fun e => by
      have := (List.pairwise_cons.1 h.2).1 d' hd'
      rw [h1, k1, e] at this
      exact this rfl
    exact ⟨r', k1, k2, by simpa [World.putObj] using k3, (World.putObj_heap_other (fun e => hne e)).trans k4⟩

theorem bstring_kept (B b : Nat) (l : List UInt8) {w : World} (h : IsB w B b l) (hBw : B ≤ w.heap.size) :
    Calls Tryd.prog 38 #[.pointer (some ⟨b, 0, none⟩)] w fun e w' => e = .returned (.string ⟨l.toArray⟩) ∧ Below B w w' ∧ Kept b w w' :=
  (Tryd.Builder_String_any_k B b l w h hBw).mono fun e w' h => ⟨h.1, h.2.2.1, h.2.2.2⟩
def preP (a b c : Int) (pre : List (Fin 3)) : List UInt8 := (pre.map (agF a b c)).flatMap argP
theorem preP_snoc (a b c : Int) (pre : List (Fin 3)) (j : Fin 3) : preP a b c (pre ++ [j]) = preP a b c pre ++ argP (agF a b c j) := by
  unfold preP
  rw [List.map_append, List.flatMap_append]
  simp
theorem preP_all (N a b c : Int) : preP a b c (idxL N) = (agL N a b c).flatMap argP := by unfold preP; rw [idx_map]

set_option maxRecDepth 100000 in
set_option maxHeartbeats 8000000 in
theorem program_in (n : Nat) (hn : 10 ≤ n) {w : World} (hG : Ground w) (A : Option Addr) (ca : Nat) (l : List Cl) (hA : CallsAt w A l) (hlen : l.length ≤ 1000000) (hr : ∀ x ∈ l, RangeC x) :
    CallsIn Fence.wide n Tryd.prog 24 #[.slice A l.length ca] w fun e w' => e = .returned (.tuple #[.string ⟨((progO l).getD []).toArray⟩, .int .i64 (errC (progO l))]) ∧ Below w.heap.size w w' := by
  have h1 : 1 ≤ n := by omega
  have HG := Lib.hid hG
  have HR := Lib.hid hr
  have HA := Lib.hid hA
  obtain ⟨post, hpost⟩ : ∃ post : Ending → World → Prop, post = fun e w' => e = .returned (.tuple #[.string ⟨((progO l).getD []).toArray⟩, .int .i64 (errC (progO l))]) ∧ Below w.heap.size w w' := ⟨_, rfl⟩
  rw [← hpost]
  have HPOST := Lib.hid hpost
  have hk0 : 0 < w.heap.size := hG.laid.klt
  have hI0 := IsB.new w
  have hb0 := (Below.refl w.heap.size w).alloc (Nat.le_refl _) (.cells #[.pointer none, .slice none 0 0] 76)
  clear hpost hG hr hA
  refine callsIn_of_wp_marks Tryd.func24 rfl trivial ?_ rfl
  simp only [Tryd.ntmps24, List.size_toArray, List.length_cons, List.length_nil, Nat.reduceAdd, Nat.reduceSub, Array.replicate_succ, Array.replicate_zero, List.push_toArray, List.append_toArray, List.nil_append, List.cons_append]
  gi_wp2
  refine wpIn_loop (fun a' wr => ∃ (k : Nat) (ds : List Deferred) (u6 u7 u8 u12 u13 u14 u15 u16 u17 u18 u19 u20 u21 u22 u23 u24 u25 u26 u27 u28 u29 u30 u31 u32 u33 u34 u35 u36 u37 u38 u41 u42 u43 u44 u45 u46 u47 u48 u49 u50 u51 u52 u53 : Value), (k ≤ l.length ∧ (∀ x ∈ l.take k, FineC x) ∧ IsB wr w.heap.size w.heap.size (progL (l.take k)) ∧ Below w.heap.size w wr ∧ Marks w.heap.size wr ds) ∧ a' = { tmps := #[.slice A l.length ca, undef, .string ⟨#[]⟩, .int .i64 0, .pointer (some ⟨w.heap.size, 0, none⟩), undef, u6, u7, u8, .slice A l.length ca, .int .i64 l.length, .int .i64 (k : Int), u12, u13, u14, u15, u16, u17, u18, u19, u20, u21, u22, u23, u24, u25, u26, u27, u28, u29, u30, u31, u32, u33, u34, u35, u36, u37, u38, undef, undef, u41, u42, u43, u44, u45, u46, u47, u48, u49, u50, u51, u52, u53, undef], defers := ds }) (fun a' _ => l.length - (intOf (a'.tmps.getD 11 undef)).toNat) ?_ ?_
  · exact ⟨0, [], _, _, _, _, _, _, _, _, _, _, _, _, _, _, _, _, _, _, _, _, _, _, _, _, _, _, _, _, _, _, _, _, _, _, _, _, _, _, _, _, _, _, _, ⟨by omega, fun x hx => by simp at hx, hI0, hb0, Marks.nil _ _⟩, rfl⟩
  · intro _ wr hinv
    clear hI0 hb0
    obtain ⟨k, ds, u6, u7, u8, u12, u13, u14, u15, u16, u17, u18, u19, u20, u21, u22, u23, u24, u25, u26, u27, u28, u29, u30, u31, u32, u33, u34, u35, u36, u37, u38, u41, u42, u43, u44, u45, u46, u47, u48, u49, u50, u51, u52, u53, ⟨hk, hpre, hI, hB, hMK⟩, rfl⟩ := hinv
    dsimp only
    have HMK := Lib.hid hMK
    clear hMK
    by_cases hkl : k < l.length
    · have hkb : (k : Int) < (l.length : Int) := by omega
      have hxe : l[k]? = some l[k] := List.getElem?_eq_getElem hkl
      have hmem : l[k] ∈ l := List.getElem_mem hkl
      have hrx := HR.out _ hmem
      obtain ⟨b, off, rfl, hbl, c0, c1, c2, c3⟩ := call_at (HA.out.below hB) hxe
      generalize hx0 : l[k] = x at *
      obtain ⟨N, a, bb, c⟩ := x
      simp only at c0 c1 c2 c3
      have HPRE := Lib.hid hpre
      have HXE := Lib.hid hxe
      have HMEM := Lib.hid hmem
      have HI := Lib.hid hI
      have HB := Lib.hid hB
      have HRX := Lib.hid hrx
      have HM := Lib.hid (fun W (hW : Below w.heap.size w W) => show CallsIn Fence.wide (n - 1) Tryd.prog 33 #[.agg #[.int .i64 N, .int .u32 a, .int .u32 bb, .int .u32 c]] W fun e w' => e = .returned (.bool (decide (MayC ⟨N, a, bb, c⟩))) ∧ Below W.heap.size W w' from callsIn_wide.2 (may_any (HG.out.below hW).laid N a bb c))
      clear hx0 hpre hxe hmem hI hrx
      by_cases hm : MayC ⟨N, a, bb, c⟩
      · rw [decide_eq_true hm] at HM
        have hb1 := bl_new hB (.cells #[.int .i64 N, .int .u32 a, .int .u32 bb, .int .u32 c] 27)
        have hbk := (Below.refl wr.heap.size wr).alloc (Nat.le_refl _) (.cells #[.int .i64 N, .int .u32 a, .int .u32 bb, .int .u32 c] 27)
        have hx1 := Blk.new wr 27 #[.int .i64 N, .int .u32 a, .int .u32 bb, .int .u32 c]
        have hI1 := HI.out.below hbk
        have hM1 := HMK.out.below hbk
        have HMY := Lib.hid hm
        clear hm hB hbk
        gi_wp2_with fail
        refine ⟨trivial, ?_⟩
        refine (HM.out _ hb1).mono ?_
        rintro e W1 ⟨rfl, hb2⟩
        have hx2 := hx1.below hb2 hx1.lt
        have hI2 := hI1.below hb2
        have HM2 := Lib.hid (hM1.below hb2)
        have hB2 := bl_step hb1 hb2
        obtain ⟨y0, y1, y2, y3, ylt⟩ := ccells hx2
        have HI2 := Lib.hid hI2
        have HX2 := Lib.hid hx2
        have HB2 := Lib.hid hB2
        clear c0 c1 c2 c3 hb1 hx1 hI1 hM1 hb2 hx2 hI2 hB2 hbl
        obtain ⟨m1, hm1⟩ : ∃ m1, (if a < bb then bb else a) = m1 := ⟨_, rfl⟩
        obtain ⟨m2, hm2⟩ : ∃ m2, (if m1 < c then c else m1) = m2 := ⟨_, rfl⟩
        have HBIG := Lib.hid (show m2 ≤ 32767 ↔ a ≤ 32767 ∧ bb ≤ 32767 ∧ c ≤ 32767 from by rw [← hm2, ← hm1]; repeat' split; all_goals omega)
        by_cases hbig : m2 ≤ 32767
        · have hF := HBIG.out.1 hbig
          have HFN := Lib.hid hF
          clear hF
          have hkl2 := l.length_take_le k
          have hTl : (progL (l.take k)).length ≤ 200000000 := by
            have h := flat_len callP 200 (l.take k) (fun y hy => callP_len (HR.out y (List.mem_of_mem_take hy)) (HPRE.out y hy).1)
            unfold progL
            omega
          have hNr := may_num HMY.out.1
          obtain ⟨hN1, hN2, _⟩ := hNr
          dsimp only at hN1 hN2
          obtain ⟨T0, hT0⟩ : ∃ T0, progL (l.take k) = T0 := ⟨_, rfl⟩
          rw [hT0] at hTl HI2
          have HT0 := Lib.hid hT0
          obtain ⟨sn, hsn⟩ : ∃ sn : ByteArray, sn = ⟨(Lib.itoa N).toArray⟩ := ⟨_, rfl⟩
          have hsnz : sn.size ≤ 21 := by rw [hsn]; exact itoa_len N (by omega) (by omega)
          have HIT := Lib.hid (fun W (hW : Below w.heap.size w W) => show CallsIn Fence.wide (n - 1) Tryd.prog 37 #[.int .i64 N] W fun e w' => e = .returned (.string sn) ∧ Below W.heap.size W w' from by rw [hsn]; exact callsIn_wide.2 (itoa_any (HG.out.below hW).pow N (by omega) (by omega)))
          have HNUM := Lib.hid (show (⟨#[108, 105, 32, 48, 32]⟩ ++ sn ++ ⟨#[10]⟩ : ByteArray).data.toList = numP N from by rw [app_bytes, app_bytes, hsn]; rfl)
          have hz1 : (⟨#[108, 105, 32, 48, 32]⟩ ++ sn : ByteArray).size = 5 + sn.size := by rw [ByteArray.size_append]; rfl
          have hz2 : (⟨#[108, 105, 32, 48, 32]⟩ ++ sn ++ ⟨#[10]⟩ : ByteArray).size = 5 + sn.size + 1 := by rw [ByteArray.size_append, hz1]; rfl
          have HWS := Lib.hid (fun (W : World) (T : List UInt8) (s : ByteArray) (hI : IsB W w.heap.size w.heap.size T) (hT : T.length ≤ 1000000000) (hs : s.size ≤ 1000) (hw : w.heap.size ≤ W.heap.size) => writeString_any w.heap.size w.heap.size T s hI (by omega) hw)
          clear hT0 hsn
          gi_wp2_with fail
          refine ⟨trivial, (HIT.out _ HB2.out).mono ?_⟩
          rintro e W2 ⟨rfl, hb2⟩
          have hI3 := HI2.out.below hb2
          have hX3 := HX2.out.below hb2 HX2.out.lt
          have hM3 := HM2.out.below hb2
          have hB3 := bl_step HB2.out hb2
          have HW3 := Lib.hid (HWS.out W2 T0 (⟨#[108, 105, 32, 48, 32]⟩ ++ sn ++ ⟨#[10]⟩) hI3 (by omega) (by rw [hz2]; omega) hB3.size)
          clear y0 y1 y2 y3 ylt hb2
          gi_wp2_with fail
          refine ⟨trivial, (callsIn_wide.2 HW3.out).mono ?_⟩
          rintro e W3 ⟨rfl, hI4, hb3, hkp⟩
          rw [HNUM.out] at hI4
          have hwB : w.heap.size ≤ wr.heap.size := HB.out.size
          have hX4 := kept_blk hkp hX3 (show wr.heap.size ≠ w.heap.size by have := HI.out.lt; omega)
          have hM4 := hM3.kept (Nat.le_refl _) (kept_from hI3 hb3 hkp)
          have hB4 := hB3.trans hb3
          obtain ⟨y0, y1, y2, y3, ylt⟩ := ccells hX4
          clear HW3 hb3 hkp hI3 hX3 hM3 hB3
          gi_wp2_with (refine ⟨trivial, ?_⟩; gi_at_call 34; refine (args_in (n - 1) _ _ _ _ _).mono ?_; rintro e w' ⟨rfl, rfl⟩)
          have hbk := (Below.refl W3.heap.size W3).alloc (Nat.le_refl _) (.cells #[.int .i64 N, .int .u32 a, .int .u32 bb, .int .u32 c] 27)
          have hA5 := Blk.new W3 27 #[.int .i64 N, .int .u32 a, .int .u32 bb, .int .u32 c]
          have hI5 := hI4.below hbk
          have hM5 := hM4.below hbk
          have hB5 := bl_new hB4 (.cells #[.int .i64 N, .int .u32 a, .int .u32 bb, .int .u32 c] 27)
          have hs5 : (W3.alloc (.cells #[.int .i64 N, .int .u32 a, .int .u32 bb, .int .u32 c] 27)).heap.size = W3.heap.size + 1 := by simp
          have hGl := hB4.size
          have hbl5 := hI4.lt
          clear y0 y1 y2 y3 ylt hX4 hI4 hM4 hB4 hbk
          generalize W3.alloc (.cells #[.int .i64 N, .int .u32 a, .int .u32 bb, .int .u32 c] 27) = W5 at *
          generalize W3.heap.size = G at *
          have HFR := Lib.hid (fun j => agF_range HRX.out j)
          have hC5 := hM5.lt
          refine wpIn_rangeFunc_ownH rfl h1 (gf := 47) (lb := #[.pointer (some ⟨G, 0, none⟩)]) rfl trivial (enters_of Tryd.func47 (by kernel_rfl) rfl)
            (args_stops3 (n - 1) (by omega) G w.heap.size N a bb c W5 hA5 (HG.out.below hB5).laid hk0 (by omega)) kpB_t (kpB_b (by omega) (by omega)) (Below.refl _ _) (fun _ => rfl)
            (fun (pre : List (Fin 3)) W => IsB W w.heap.size w.heap.size (T0 ++ numP N ++ preP a bb c pre) ∧ Blk W G 27 #[.int .i64 N, .int .u32 a, .int .u32 bb, .int .u32 c] ∧ Marks w.heap.size W ds ∧ Below w.heap.size w W)
            (fun _ _ _ => False)
            (OwnFrom.and (Own.from (isB_own (fun (pre : List (Fin 3)) => T0 ++ numP N ++ preP a bb c pre)) _) (OwnFrom.and (Own.from (blk_own _ _ (fun _ => #[.int .i64 N, .int .u32 a, .int .u32 bb, .int .u32 c])) _) (OwnFrom.and (fun _ _ _ row hs hg hr => hs.grown hC5 hg (fun r e => (hr r e).1)) (ownFrom_below (Nat.le_refl _) (by omega)))))
            (fun _ _ _ _ _ hs _ _ => hs)
            ⟨by rw [show preP a bb c [] = [] from rfl, List.append_nil]; exact hI5, hA5, hM5, hB5⟩
            (fun j a' W => a' = { tmps := #[.slice (some ⟨b, off, none⟩) l.length ca, undef, .string ⟨#[]⟩, .int .i64 0, .pointer (some ⟨w.heap.size, 0, none⟩), undef, .pointer (some ⟨wr.heap.size, 0, none⟩), .int .i64 (j.val : Int), .int .u32 (argV a bb c j), .slice (some ⟨b, off, none⟩) l.length ca, .int .i64 l.length, .int .i64 (k : Int), .bool true, .pointer (some ⟨b, off + k * 4, none⟩), .agg #[.int .i64 N, .int .u32 a, .int .u32 bb, .int .u32 c], .agg #[.int .i64 N, .int .u32 a, .int .u32 bb, .int .u32 c], .bool true, .bool false, .bool false, .pointer (some ⟨wr.heap.size, 1, none⟩), .pointer (some ⟨wr.heap.size, 1, none⟩), .int .u32 a, .pointer (some ⟨wr.heap.size, 1, none⟩), .pointer (some ⟨wr.heap.size, 2, none⟩), .int .u32 bb, .pointer (some ⟨wr.heap.size, 1, none⟩), .pointer (some ⟨wr.heap.size, 3, none⟩), .int .u32 c, .int .u32 m2, .bool (decide (32767 < m2)), .bool (decide (32767 < m2)), .pointer (some ⟨wr.heap.size, 0, none⟩), .int .i64 N, .string sn, .string (⟨#[108, 105, 32, 48, 32]⟩ ++ sn), .string (⟨#[108, 105, 32, 48, 32]⟩ ++ sn ++ ⟨#[10]⟩), .tuple #[.int .i64 (5 + (sn.size : Int) + 1), .nilIface], .agg #[.int .i64 N, .int .u32 a, .int .u32 bb, .int .u32 c], .func (.func 47) #[] #[.pointer (some ⟨G, 0, none⟩)], .int .i64 (j.val : Int), .int .u32 (argV a bb c j), u41, u42, u43, u44, u45, u46, u47, u48, u49, u50, u51, u52, u53, undef], defers := [] })
            (fun j a' _ X Y row hs hg hr => hs)
            ?assign ?body ?done ?stop
          case assign =>
            rintro l9 pre j W K hI hK
            simp only [encA, agF] at hK ⊢
            gi_wp2
            exact hK _ _ ⟨Nat.le_refl _, fun k o _ hk _ => hk⟩ ⟨Below.refl _ _, rfl⟩ hI rfl
          case body =>
            rintro l9 pre j a' W hl ⟨r, hr⟩ ⟨bI, bA, bM, bB⟩ rfl hlt
            have hlp : (preP a bb c pre).length ≤ 150 := by
              have h := flat_len argP 50 (pre.map (agF a bb c)) (fun y hy => by obtain ⟨i, _, rfl⟩ := List.mem_map.1 hy; exact argP_len (HFR.out i).2)
              rw [List.length_map] at h
              unfold preP
              omega
            have hnl := numP_len (n := N) (by omega) (by omega)
            have hTT : (T0 ++ numP N ++ preP a bb c pre).length ≤ 1000000000 := by simp only [List.length_append]; omega
            have hsnoc := preP_snoc a bb c pre j
            obtain ⟨hv0, hv1⟩ := HFR.out j
            have hv0 : 0 ≤ argV a bb c j := hv0
            have hv1 : argV a bb c j ≤ 4294967295 := hv1
            have hjl := j.isLt
            obtain ⟨sj, hsj⟩ : ∃ sj : ByteArray, sj = ⟨(Lib.itoa (1 + (j.val : Int))).toArray⟩ := ⟨_, rfl⟩
            obtain ⟨sw, hsw⟩ : ∃ sw : ByteArray, sw = ⟨(Lib.decDigits (argV a bb c j).toNat).toArray⟩ := ⟨_, rfl⟩
            have hzj : sj.size ≤ 21 := by rw [hsj]; exact itoa_len (1 + (j.val : Int)) (by omega) (by omega)
            have hzw : sw.size ≤ 20 := by rw [hsw]; exact dec_len (by omega)
            have HARG := Lib.hid (show (⟨#[108, 105, 32]⟩ ++ sj ++ ⟨#[32]⟩ ++ sw ++ ⟨#[10]⟩ : ByteArray).data.toList = argP (agF a bb c j) from by rw [app_bytes, app_bytes, app_bytes, app_bytes, hsj, hsw]; rfl)
            have HI2 := Lib.hid (fun V (hV : Below w.heap.size w V) => show CallsIn (Fence.wide.inRound l9) (n - 1 - 1 - 1) Tryd.prog 37 #[.int .i64 (1 + (j.val : Int))] V fun e w' => e = .returned (.string sj) ∧ Below V.heap.size V w' from by rw [hsj]; exact callsIn_wide.2 (itoa_any (HG.out.below hV).pow (1 + (j.val : Int)) (by omega) (by omega)))
            have HF2 := Lib.hid (fun V (hV : Below w.heap.size w V) => show CallsIn (Fence.wide.inRound l9) (n - 1 - 1 - 1) Tryd.prog 35 #[.int .u64 (argV a bb c j), .int .i64 10] V fun e w' => e = .returned (.string sw) ∧ Below V.heap.size V w' from by
              have h := formatUint_any (HG.out.below hV).pow (argV a bb c j).toNat (by omega)
              rw [show (((argV a bb c j).toNat : Nat) : Int) = argV a bb c j by omega] at h
              rw [hsw]
              exact callsIn_wide.2 h)
            obtain ⟨TT, hTT2⟩ : ∃ TT, T0 ++ numP N ++ preP a bb c pre = TT := ⟨_, rfl⟩
            rw [hTT2] at hTT bI
            have HNEW := Lib.hid (show T0 ++ numP N ++ preP a bb c (pre ++ [j]) = TT ++ argP (agF a bb c j) from by rw [hsnoc, ← List.append_assoc, hTT2])
            generalize argV a bb c j = v at *
            have hcv : IntKind.u64.wrap v = v := Int.emod_eq_of_lt (by omega) (by show v < 18446744073709551616; omega)
            have hz3 : (⟨#[108, 105, 32]⟩ ++ sj : ByteArray).size = 3 + sj.size := by rw [ByteArray.size_append]; rfl
            have hz4 : (⟨#[108, 105, 32]⟩ ++ sj ++ ⟨#[32]⟩ : ByteArray).size = 3 + sj.size + 1 := by rw [ByteArray.size_append, hz3]; rfl
            have hz5 : (⟨#[108, 105, 32]⟩ ++ sj ++ ⟨#[32]⟩ ++ sw : ByteArray).size = 3 + sj.size + 1 + sw.size := by rw [ByteArray.size_append, hz4]
            have hz6 : (⟨#[108, 105, 32]⟩ ++ sj ++ ⟨#[32]⟩ ++ sw ++ ⟨#[10]⟩ : ByteArray).size = 3 + sj.size + 1 + sw.size + 1 := by rw [ByteArray.size_append, hz5]; rfl
            have HN3 := Lib.hid (show 1 ≤ n - 1 - 1 by omega)
            have HBI := Lib.hid bI
            have HBA := Lib.hid bA
            have HBM := Lib.hid bM
            have HBB := Lib.hid bB
            clear hr hlp hnl hsnoc hsj hsw hTT2 bI bA bM bB
            gi_wp2_with fail
            refine ⟨trivial, fun _ => HN3.out, (HI2.out _ HBB.out).mono ?_⟩
            rintro e V1 ⟨rfl, hb1⟩
            have hB1 := HBB.out.trans (hb1.mono HBB.out.size)
            gi_wp2_with fail
            refine ⟨trivial, fun _ => HN3.out, (HF2.out _ hB1).mono ?_⟩
            rintro e V2 ⟨rfl, hb2⟩
            have hb12 := hb1.trans (hb2.mono hb1.size)
            have hB2 := hB1.trans (hb2.mono hB1.size)
            have hI3 := HBI.out.below hb12
            have hA3 := HBA.out.below hb12 HBA.out.lt
            have hM3 := HBM.out.below hb12
            have HWR := Lib.hid (HWS.out V2 TT (⟨#[108, 105, 32]⟩ ++ sj ++ ⟨#[32]⟩ ++ sw ++ ⟨#[10]⟩) hI3 hTT (by rw [hz6]; omega) hB2.size)
            have hk12 : KeepsFrom W5.heap.size W V2 := ⟨hb12.size, fun k9 o _ hk _ => (hb12.block k9 (Array.getElem?_eq_some_iff.1 hk).1).trans hk⟩
            have hI3h := Lib.hid hI3
            clear hb1 hb2 hB1 hI3
            gi_wp2_with fail
            refine ⟨trivial, fun _ => HN3.out, (callsIn_wide.2 HWR.out).mono ?_⟩
            rintro e V3 ⟨rfl, hI4, hb3, hkp⟩
            rw [HARG.out, ← HNEW.out] at hI4
            have hA4 := kept_blk hkp hA3 (show G ≠ w.heap.size by have := HBI.out.lt; omega)
            have hkf := kept_from hI3h.out hb3 hkp
            have hM4 := hM3.kept (Nat.le_refl _) hkf
            have hbW : Below w.heap.size W V3 := (hb12.mono HBB.out.size).trans hb3
            clear hb12 hb3 hkp hA3 hM3 HWR
            gi_wp2
            exact ⟨hk12.trans ⟨hkf.1, fun k9 o h9 => hkf.2 k9 o (by omega)⟩, ⟨hbW, hA4.trans HBA.out.symm⟩, hI4, hA4, hM4, HBB.out.trans hbW⟩
          case done =>
            rintro D ys W hD rfl ⟨bI, bA, bM, bB⟩ hK
            rw [preP_all] at bI
            have hM9 := marks_cons (a := #[]) hM5 bM hD (by omega) hK
            have hnl := numP_len (n := N) (by omega) (by omega)
            have hal := flat_len argP 50 (agL N a bb c) (fun y hy => argP_len (agL_range HRX.out y hy).2)
            rw [agL_len] at hal
            have ha3 := agN_le N
            have hTT : (T0 ++ numP N ++ (agL N a bb c).flatMap argP).length ≤ 1000000000 := by simp only [List.length_append]; omega
            have HWR := Lib.hid (HWS.out W _ ⟨#[115, 121, 115, 10]⟩ bI hTT (by show 4 ≤ 1000; omega) bB.size)
            have HBI := Lib.hid bI
            have HM9 := Lib.hid hM9
            have HBB := Lib.hid bB
            clear bI bA bM bB hM9 hal ha3 hTT hK
            gi_wp2_with fail
            refine ⟨trivial, (callsIn_wide.2 HWR.out).mono ?_⟩
            rintro e V3 ⟨rfl, hI4, hb3, hkp⟩
            have hM4 := HM9.out.kept (Nat.le_refl _) (kept_from HBI.out hb3 hkp)
            have hI5 : IsB V3 w.heap.size w.heap.size (progL (l.take (k + 1))) := by
              rw [prog_take HXE.out, HT0.out]
              have e : T0 ++ callP ⟨N, a, bb, c⟩ = T0 ++ numP N ++ (agL N a bb c).flatMap argP ++ [115, 121, 115, 10] := by unfold callP; simp
              rw [e]
              exact hI4
            have HP5 := Lib.hid (fun x (hx : x ∈ l.take (k + 1)) => show FineC x from by
              rw [List.take_add_one, HXE.out, List.mem_append] at hx
              rcases hx with hx | hx
              · exact HPRE.out x hx
              · simp at hx
                rw [hx]
                exact ⟨HMY.out, HFN.out⟩)
            have HI5 := Lib.hid hI5
            have HM4 := Lib.hid hM4
            have HB9 := Lib.hid (HBB.out.trans hb3)
            clear hI4 hI5 hb3 hkp hM4 HWR
            gi_wp2
            refine ⟨⟨k + 1, ?_⟩, ?_⟩
            · (repeat apply Exists.intro)
              refine ⟨⟨by omega, HP5.out, HI5.out, HB9.out, HM4.out⟩, ?_⟩
              rfl
            · simp [intOf]; omega
          case stop =>
            rintro D c pre W _ _ h _
            exact h.elim
        · have hF := fun h => hbig (HBIG.out.2 h)
          have hn2 : progO l = none := if_neg (fun h => hF (h _ HMEM.out).2)
          have HP2 := Lib.hid (show post = fun e w' => e = .returned (.tuple #[.string ⟨#[]⟩, .int .i64 160]) ∧ Below w.heap.size w w' from by rw [HPOST.out, hn2]; rfl)
          clear hF hn2
          gi_wp2
          rw [HP2.out]
          exact leaves_marks (Nat.le_refl _) _ _ HM2.out (fun W' hW' => ⟨_, results_tmp2 rfl _ _ _, rfl, HB2.out.trans hW'⟩)
      · rw [decide_eq_false hm] at HM
        have hn2 : progO l = none := if_neg (fun h => hm (h _ HMEM.out).1)
        have HP2 := Lib.hid (show post = fun e w' => e = .returned (.tuple #[.string ⟨#[]⟩, .int .i64 160]) ∧ Below w.heap.size w w' from by rw [HPOST.out, hn2]; rfl)
        have hb1 := bl_new hB (.cells #[.int .i64 N, .int .u32 a, .int .u32 bb, .int .u32 c] 27)
        have hbk := (Below.refl wr.heap.size wr).alloc (Nat.le_refl _) (.cells #[.int .i64 N, .int .u32 a, .int .u32 bb, .int .u32 c] 27)
        clear hm hn2 hB
        gi_wp2_with fail
        refine ⟨trivial, ?_⟩
        refine (HM.out _ hb1).mono ?_
        rintro e W1 ⟨rfl, hb2⟩
        have HB2 := Lib.hid (bl_step hb1 hb2)
        have HM2 := Lib.hid ((HMK.out.below hbk).below hb2)
        clear hb1 hb2 hbk
        gi_wp2
        rw [HP2.out]
        exact leaves_marks (Nat.le_refl _) _ _ HM2.out (fun W' hW' => ⟨_, results_tmp2 rfl _ _ _, rfl, HB2.out.trans hW'⟩)
    · have hkk : k = l.length := by omega
      subst hkk
      rw [List.take_length] at hpre hI
      have hn2 : progO l = some (progL l) := if_pos hpre
      have HP2 := Lib.hid (show post = fun e w' => e = .returned (.tuple #[.string ⟨(progL l).toArray⟩, .int .i64 0]) ∧ Below w.heap.size w w' from by rw [HPOST.out, hn2]; rfl)
      have HST := Lib.hid (show CallsIn Fence.wide (n - 1) Tryd.prog 38 #[.pointer (some ⟨w.heap.size, 0, none⟩)] wr fun e w' => e = .returned (.string ⟨(progL l).toArray⟩) ∧ Below w.heap.size wr w' ∧ Kept w.heap.size wr w' from callsIn_wide.2 (bstring_kept _ _ _ hI hB.size))
      have HI9 := Lib.hid hI
      have HB := Lib.hid hB
      obtain ⟨sp, hsp⟩ : ∃ sp : ByteArray, sp = ⟨(progL l).toArray⟩ := ⟨_, rfl⟩
      rw [← hsp] at HST HP2
      clear hpre hI hn2 hB hsp
      gi_wp2_with fail
      refine ⟨trivial, ?_⟩
      refine HST.out.mono ?_
      rintro e W1 ⟨rfl, hb2, hkp⟩
      have HB2 := Lib.hid (HB.out.trans hb2)
      have HM2 := Lib.hid (HMK.out.kept (Nat.le_refl _) (kept_from HI9.out hb2 hkp))
      clear hb2
      gi_wp2
      rw [HP2.out]
      exact leaves_marks (Nat.le_refl _) _ _ HM2.out (fun W' hW' => ⟨_, results_tmp2 rfl _ _ _, rfl, HB2.out.trans hW'⟩)
end Go.Proofs.YthmjddnccgiinaaDoor
