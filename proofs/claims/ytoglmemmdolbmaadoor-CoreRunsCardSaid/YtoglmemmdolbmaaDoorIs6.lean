/-
  isa.Line, isa.Read: an instruction's line, a line's instruction. Condition: the tables lie as the program's text, and the library's, lay them.
-/
import Derived.Test.YtoglmemmdolbmaaDoorIs5
namespace Go.Proofs.YtoglmemmdolbmaaDoor.I
open Go.RowKit Go.Shelf
set_option linter.unusedVariables false
set_option linter.unusedSimpArgs false
attribute [local go_sem] Oper.semAt_some

theorem ret_line {x : ByteArray} {l : List UInt8} {n : Int} (h : x.data.toList = l) : Ending.returned (.tuple #[.string x, .int .i64 n]) = .returned (.tuple #[strV l, .int .i64 n]) := by
  rw [← h]
  show _ = Ending.returned (.tuple #[.string ⟨x.data.toList.toArray⟩, _])
  have : x = ⟨x.data.toList.toArray⟩ := bytes_eq rfl
  rw [← this]
def bsL (l : List UInt8) : ByteArray := ⟨l.toArray⟩
theorem bsL_app (a b : List UInt8) : bsL a ++ bsL b = bsL (a ++ b) := by
  refine bytes_eq ?_
  rw [ByteArray.data_append]
  simp [bsL]
theorem bsL_size (a : List UInt8) : (bsL a).size = a.length := rfl
theorem bsL_eta (s : ByteArray) : bsL s.data.toList = s := bytes_eq rfl
/-- One word more behind a line. -/
def addW (q : Bool) (n : Int) (s : List UInt8) : List UInt8 := if q then s ++ 32 :: Lib.itoa n else s
theorem lineI_is (x : Ins) : lineI x = addW (fI (fR x.op)) x.imm (addW (decide (0 ≤ fB (fR x.op))) x.b (addW (decide (0 ≤ fA (fR x.op))) x.a (nameI x.op))) := by
  unfold lineI wordsI addW
  by_cases h1 : 0 ≤ fA (fR x.op) <;> by_cases h2 : 0 ≤ fB (fR x.op) <;> cases h3 : fI (fR x.op) <;> simp [h1, h2, glue]
theorem addW_len (q : Bool) (n : Int) (s : List UInt8) (h0 : -9223372036854775808 ≤ n) (h1 : n ≤ 9223372036854775807) : (addW q n s).length ≤ s.length + 22 := by
  unfold addW
  split
  · have := itoa_len n h0 h1
    rw [List.length_append, List.length_cons]
    omega
  · omega
theorem row_len : ∀ k : Fin 31, (rowF k.1).1.length ≤ 5 := by decide +kernel
theorem nameI_len (n : Int) : (nameI n).length ≤ 5 := row_len ⟨fR n, by have := fR_le n; omega⟩
theorem lineI_len {x : Ins} (h : MayI x) : (lineI x).length ≤ 80 := by
  have hs := may_small h
  rw [lineI_is]
  have h0 := nameI_len x.op
  have h1 := addW_len (decide (0 ≤ fA (fR x.op))) x.a (nameI x.op) (by omega) (by omega)
  have h2 := addW_len (decide (0 ≤ fB (fR x.op))) x.b (addW (decide (0 ≤ fA (fR x.op))) x.a (nameI x.op)) (by omega) (by omega)
  have h3 := addW_len (fI (fR x.op)) x.imm (addW (decide (0 ≤ fB (fR x.op))) x.b (addW (decide (0 ≤ fA (fR x.op))) x.a (nameI x.op))) (by omega) (by omega)
  omega

set_option maxRecDepth 100000 in
set_option maxHeartbeats 4000000 in
theorem lineI_no {w : World} (hL : Laid w) (op a b m : Int) (hm : ¬ MayI ⟨op, a, b, m⟩) : Calls Tryd.prog 11 #[.agg #[.int .i64 op, .int .i64 a, .int .i64 b, .int .i64 m]] w fun e w' => e = .returned (.tuple #[.string ⟨#[]⟩, .int .i64 30]) ∧ Below w.heap.size w w' := by
  have hb0 := (Below.refl w.heap.size w).alloc (Nat.le_refl _) (.cells #[.int .i64 op, .int .i64 a, .int .i64 b, .int .i64 m] 38)
  have H := Lib.hid (check_any (hL.below hb0) op a b m)
  have hx0 := Blk.new w 38 #[.int .i64 op, .int .i64 a, .int .i64 b, .int .i64 m]
  obtain ⟨c0, c1, c2, c3, clt⟩ := ccells hx0
  rw [errI_no hm] at H
  clear hL hm hx0
  go_enter Tryd.func11, Tryd.ntmps11
  go_wp2_with fail
  refine H.out.mono ?_
  rintro e w1 ⟨rfl, hb1⟩
  have HB1 := Lib.hid (bl_step hb0 hb1)
  clear c0 c1 c2 c3 clt hb0 hb1 H
  go_wp2
  go_ret2
  exact ⟨rfl, HB1.out⟩

set_option maxRecDepth 100000 in
set_option maxHeartbeats 8000000 in
theorem lineI_yes {w : World} (hG : Ground w) (op a b m : Int) (hm : MayI ⟨op, a, b, m⟩) : Calls Tryd.prog 11 #[.agg #[.int .i64 op, .int .i64 a, .int .i64 b, .int .i64 m]] w fun e w' => e = .returned (.tuple #[strV (lineI ⟨op, a, b, m⟩), .int .i64 0]) ∧ Below w.heap.size w w' := by
  have hs := may_small hm
  simp only at hs
  have hb0 := (Below.refl w.heap.size w).alloc (Nat.le_refl _) (.cells #[.int .i64 op, .int .i64 a, .int .i64 b, .int .i64 m] 38)
  have hx0 := Blk.new w 38 #[.int .i64 op, .int .i64 a, .int .i64 b, .int .i64 m]
  have hG0 := hG.below hb0
  have H := Lib.hid (check_any hG0.laid op a b m)
  rw [errI_yes hm] at H
  have HO := Lib.hid (fun W (hW : Below w.heap.size w W) => of_any (hG.below hW).laid op)
  have HIA := Lib.hid (fun W (hW : Below w.heap.size w W) => itoa_any (hG.below hW).pow a (by omega) (by omega))
  have HIB := Lib.hid (fun W (hW : Below w.heap.size w W) => itoa_any (hG.below hW).pow b (by omega) (by omega))
  have HIM := Lib.hid (fun W (hW : Below w.heap.size w W) => itoa_any (hG.below hW).pow m (by omega) (by omega))
  have hla := itoa_len a (by omega) (by omega)
  have hlb := itoa_len b (by omega) (by omega)
  have hlm := itoa_len m (by omega) (by omega)
  have hln := nameI_len op
  obtain ⟨post, hpost⟩ : ∃ post : Ending → World → Prop, post = fun e w' => e = .returned (.tuple #[strV (lineI ⟨op, a, b, m⟩), .int .i64 0]) ∧ Below w.heap.size w w' := ⟨_, rfl⟩
  rw [← hpost]
  rw [lineI_is] at hpost
  simp only [addW] at hpost
  have hq : isR op = true := decide_eq_true hm.1
  unfold aggF at HO
  rw [hq] at HO
  obtain ⟨nm, hnm⟩ : ∃ nm : ByteArray, fN (fR op) = nm := ⟨_, rfl⟩
  obtain ⟨ia, hia⟩ : ∃ ia : ByteArray, ia = ⟨(Lib.itoa a).toArray⟩ := ⟨_, rfl⟩
  obtain ⟨ib, hib⟩ : ∃ ib : ByteArray, ib = ⟨(Lib.itoa b).toArray⟩ := ⟨_, rfl⟩
  obtain ⟨im, him⟩ : ∃ im : ByteArray, im = ⟨(Lib.itoa m).toArray⟩ := ⟨_, rfl⟩
  have lnm : nm.data.toList = nameI op := by rw [← hnm]; rfl
  have lia : ia.data.toList = Lib.itoa a := by rw [hia]
  have lib : ib.data.toList = Lib.itoa b := by rw [hib]
  have lim : im.data.toList = Lib.itoa m := by rw [him]
  rw [← hia] at HIA
  rw [← hib] at HIB
  rw [← him] at HIM
  rw [hnm] at HO
  have sz : ∀ s : ByteArray, s.size = s.data.toList.length := fun s => (Array.length_toList).symm
  have z0 : nm.size ≤ 5 := by rw [sz, lnm]; exact hln
  have za : ia.size ≤ 21 := by rw [sz, lia]; exact hla
  have zb : ib.size ≤ 21 := by rw [sz, lib]; exact hlb
  have zm : im.size ≤ 21 := by rw [sz, lim]; exact hlm
  rw [← lnm, ← lia, ← lib, ← lim] at hpost
  generalize fA (fR op) = fa at *
  generalize fB (fR op) = fb at *
  generalize fI (fR op) = fi at *
  have hx0l := hx0.lt
  obtain ⟨W0, hW0⟩ : ∃ W0, w.alloc (.cells #[.int .i64 op, .int .i64 a, .int .i64 b, .int .i64 m] 38) = W0 := ⟨_, rfl⟩
  rw [hW0] at H hb0 hx0 hx0l
  have HX := Lib.hid (fun W (hW : Below W0.heap.size W0 W) => ccells (hx0.below hW hx0l))
  have HB := Lib.hid (fun W (hW : Below W0.heap.size W0 W) => hb0.trans (hW.mono hb0.size))
  have HPOST := Lib.hid hpost
  clear hpost hs hm hq hnm hia hib him lnm lia lib lim sz hla hlb hlm hln hG hG0
  have y1 : (⟨#[32]⟩ ++ ia : ByteArray).size = 1 + ia.size := by rw [ByteArray.size_append]; rfl
  have y2 : (⟨#[32]⟩ ++ ib : ByteArray).size = 1 + ib.size := by rw [ByteArray.size_append]; rfl
  have y3 : (⟨#[32]⟩ ++ im : ByteArray).size = 1 + im.size := by rw [ByteArray.size_append]; rfl
  obtain ⟨c0, c1, c2, c3, clt⟩ := ccells hx0
  go_enter Tryd.func11, Tryd.ntmps11
  go_wp2_with fail
  have HW0 := Lib.hid hW0
  clear hW0
  refine H.out.mono ?_
  rintro e w1 ⟨rfl, hb1⟩
  have g1 := HX.out w1 hb1
  clear c0 c1 c2 c3 clt
  obtain ⟨c0, c1, c2, c3, clt⟩ := g1
  have HB1 := Lib.hid hb1
  clear hb1 H hb0 hx0 hx0l
  go_wp2_with fail
  refine (HO.out _ (HB.out _ HB1.out)).mono ?_
  rintro e w2 ⟨rfl, hb2⟩
  have hB2 := HB1.out.trans (hb2.mono HB1.out.size)
  clear c0 c1 c2 c3 clt HB1
  have hf2 := Blk.new w2 76 #[.string nm, .int .i64 fa, .int .i64 fb, .bool fi]
  obtain ⟨w3, hw3⟩ : ∃ w3, w2.alloc (.cells #[.string nm, .int .i64 fa, .int .i64 fb, .bool fi] 76) = w3 := ⟨_, rfl⟩
  have hB3 : Below W0.heap.size W0 w3 := by rw [← hw3]; exact bl_new hB2 _
  rw [hw3] at hf2
  have HF := Lib.hid (fun W (hW : Below w3.heap.size w3 W) => ccells (hf2.below hW hf2.lt))
  have HB3 := Lib.hid hB3
  have flt3 := hf2.lt
  clear hb2 hB2 hB3
  have hBc := Below.refl w3.heap.size w3
  have hlt2 : w2.heap.size < w3.heap.size := flt3
  have ff0 := hf2.frozen 0
  have ff1 := hf2.frozen 1
  have ff2 := hf2.frozen 2
  have ff3 := hf2.frozen 3
  clear hf2 hlt2
  go_upto_region 5 with (fail)
  have HW3 := Lib.hid hw3
  clear hw3 ff0 ff1 ff2 ff3
  by_cases hqa : 0 ≤ fa
  all_goals by_cases hqb : 0 ≤ fb
  all_goals cases fi
  all_goals
    have da := HPOST.out
    simp only [hqa, hqb, decide_true, decide_false, if_true, Bool.false_eq_true, if_false] at da
    have HPOST2 := Lib.hid da
    clear da HPOST
    try have na : fa < 0 := by omega
    try have nb : fb < 0 := by omega
    obtain ⟨f0, f1, f2, f3, flt⟩ := HF.out _ hBc
    obtain ⟨c0, c1, c2, c3, clt⟩ := HX.out _ (HB3.out.trans (hBc.mono HB3.out.size))
    go_wp2_with fail
    iterate 3
      try
        (first
          | (with_reducible refine (HIA.out _ (HB.out _ (HB3.out.trans (hBc.mono HB3.out.size)))).mono ?_)
          | (with_reducible refine (HIB.out _ (HB.out _ (HB3.out.trans (hBc.mono HB3.out.size)))).mono ?_)
          | (with_reducible refine (HIM.out _ (HB.out _ (HB3.out.trans (hBc.mono HB3.out.size)))).mono ?_))
        rintro e W4 ⟨rfl, hb4⟩
        have hBn := bl_step hBc hb4
        clear f0 f1 f2 f3 flt c0 c1 c2 c3 clt hBc hb4
        have hBc := hBn
        clear hBn
        obtain ⟨f0, f1, f2, f3, flt⟩ := HF.out _ hBc
        obtain ⟨c0, c1, c2, c3, clt⟩ := HX.out _ (HB3.out.trans (hBc.mono HB3.out.size))
        go_wp2_with fail
    rw [HPOST2.out]
    exact ⟨ret_line (by simp [ByteArray.data_append]), HB.out _ (HB3.out.trans (hBc.mono HB3.out.size))⟩

/-- What a line reads as: an instruction and an error. -/
def readX (s : List UInt8) : Ins := (readI s).getD x0
def readE (s : List UInt8) : Int := if (readI s).isSome then 0 else 30
end Go.Proofs.YtoglmemmdolbmaaDoor.I
