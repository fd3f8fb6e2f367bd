/-
  isa's program takes a line: labels. Condition: the tables lie as the program's text, and the library's, lay them.
-/
import Derived.RangeFuncNested
import Derived.Test.YtoglmemmdolbmaaDoorSeqB
import Derived.Test.YtoglmemmdolbmaaDoorLines
import Derived.Test.YtoglmemmdolbmaaDoorIs6
import Derived.Maps.OwnSet
import Derived.Maps.AppendAt
import Derived.Deep.AppendLies
import Derived.Test.YtoglmemmdolbmaaDoorRowMem
import Derived.StillTailTactics
import Derived.Outline
namespace Go.Proofs.YtoglmemmdolbmaaDoor.I
section
open Go.RowKit Go.Shelf
set_option linter.unusedVariables false
set_option linter.unusedSimpArgs false
attribute [local go_sem] Oper.semAt_some

theorem room_none (k : Nat) : Fence.wide.room k := fun d h => by cases h
theorem yield_deep {m : Nat} (m' l' : Nat) {P : Program} {l : Nat} {args : Array Value} {W : World} {R : Ending → World → Prop} (h : YieldAt Fence.wide m P l args W R) : YieldAt (Fence.wide.inRound l') m' P l args W R := by
  obtain ⟨fn, tmps, assign, body, hy, h1, h2⟩ := h
  exact ⟨fn, tmps, assign, body, hy, h1, fun c cs _ => h2 c cs (room_none _)⟩

/-! ## plain -/
theorem hasSuf_one (c : UInt8) (l : List UInt8) : Lib.hasSuffix l [c] = decide (l.getLast? = some c) := by
  unfold Lib.hasSuffix
  rcases List.eq_nil_or_concat l with rfl | ⟨r, d, rfl⟩
  · simp
  · rw [List.concat_eq_append, Bool.eq_iff_iff]
    simp only [List.isSuffixOf_iff_suffix, decide_eq_true_eq, List.getLast?_append, List.getLast?_singleton, Option.some_or, Option.some.injEq]
    constructor
    · rintro ⟨t, ht⟩
      have := congrArg List.getLast? ht
      simpa using this.symm
    · rintro rfl
      exact ⟨r, rfl⟩
theorem trimSuf_one (c : UInt8) (l : List UInt8) : Lib.trimSuffix l [c] = if l.getLast? = some c then l.dropLast else l := by
  unfold Lib.trimSuffix
  rw [hasSuf_one]
  by_cases h : l.getLast? = some c
  · simp [h, List.dropLast_eq_take]
  · simp [h]
def cutX (x : ByteArray) : ByteArray × Bool := (⟨(Lib.trimSuffix (toL x) [10]).toArray⟩, Lib.hasSuffix (toL x) [10])
def toLW (x : ByteArray × Bool) : List UInt8 × Bool := (toL x.1, x.2)
def encLW (x : ByteArray × Bool) : Array Value := #[.string x.1, .bool x.2]
theorem cutX_nl (x : ByteArray) : toLW (cutX x) = cutNl (toL x) := by
  unfold toLW cutX cutNl cutSuf
  rw [hasSuf_one, trimSuf_one]
  show (((if (toL x).getLast? = some 10 then (toL x).dropLast else toL x).toArray.toList, decide ((toL x).getLast? = some 10)) : List UInt8 × Bool) = _
  by_cases h : (toL x).getLast? = some 10
  · rw [if_pos h, if_pos h, decide_eq_true h]
  · rw [if_neg h, if_neg h, decide_eq_false h]
theorem cutX_size (x : ByteArray) : (cutX x).1.size ≤ x.size := by
  have h : (cutX x).1.size = (Lib.trimSuffix (toL x) [10]).length := List.size_toArray
  rw [h, trimSuf_one]
  have h2 : (toL x).length = x.size := by unfold toL; rw [Array.length_toList]; rfl
  split
  · rw [List.length_dropLast]; omega
  · omega
/-- What a round keeps: the iterator's own blocks, and whatever is no cells. -/
def KpI (B C : Nat) (X Y : World) : Prop := KeepsFrom B X Y ∧ ∀ k, B ≤ k → k < C → Y.heap[k]? = X.heap[k]?
theorem kpI_t {B C : Nat} {X Y Z : World} (h : KpI B C X Y) (k : KpI B C Y Z) : KpI B C X Z := ⟨h.1.trans k.1, fun i h1 h2 => (k.2 i h1 h2).trans (h.2 i h1 h2)⟩

theorem linesI_in (n : Nat) (s : ByteArray) (w : World) :
    CallsIn Fence.wide n Tryd.prog 48 #[.string s] w fun e w' => e = .returned (.func (.func 64) #[] #[.pointer (some ⟨w.heap.size, 0, none⟩)]) ∧ w' = w.alloc (.cells #[.string s] 9) := by
  refine callsIn_of_wp Tryd.func48 rfl trivial ?_ rfl
  simp only [Tryd.ntmps48, List.size_toArray, List.length_cons, List.length_nil, Nat.reduceAdd, Nat.reduceSub, Array.replicate_succ, Array.replicate_zero, List.push_toArray, List.append_toArray, List.nil_append, List.cons_append]
  gi_wp2
  go_ret
  exact ⟨rfl, rfl⟩

set_option maxRecDepth 100000 in
set_option maxHeartbeats 4000000 in
theorem lines1_seq (n : Nat) (hn : 6 ≤ n) (l Bn : Nat) (s : ByteArray) (hs : s.size ≤ 1000000) (W : World) (hBn : Blk W Bn 9 #[.string s]) :
    SeqC Fence.wide n Tryd.prog 64 #[.pointer (some ⟨Bn, 0, none⟩)] encLW (fun x _ => x.1.size ≤ s.size) (KpI W.heap.size) (fun xs => xs.map toLW = (lns (toL s)).map cutNl) (fun pre => pre.map toLW <+: (lns (toL s)).map cutNl) 1000000 l W := by
  intro J Jx hJ hJx hY h0
  have h1 : 1 ≤ n := by omega
  have x0 := hBn.cell 0
  have xlt := hBn.lt
  simp only [List.getElem?_toArray, List.getElem?_cons_zero] at x0
  have hb0 := ((Below.refl W.heap.size W).alloc (Nat.le_refl _) (.cells #[.func (.yield l) #[] #[]] 128)).alloc (by simp) (.cells #[.string s] 9)
  have hY0 := (Blk.new W 128 #[.func (.yield l) #[] #[]]).alloc (.cells #[.string s] 9)
  have hS0 := Blk.new (W.alloc (.cells #[.func (.yield l) #[] #[]] 128)) 9 #[.string s]
  rw [World.size_alloc] at hS0
  have hsz : ((W.alloc (.cells #[.func (.yield l) #[] #[]] 128)).alloc (.cells #[.string s] 9)).heap.size = W.heap.size + 2 := by simp
  have HLI := Lib.hid (fun V => lines_in (n - 1) s V)
  have HS := Lib.hid h0
  clear h0
  refine callsIn_of_wp_marks Tryd.func64 rfl trivial ?_ rfl
  simp only [Tryd.ntmps64, List.size_toArray, List.length_cons, List.length_nil, Nat.reduceAdd, Nat.reduceSub, Array.replicate_succ, Array.replicate_zero, List.push_toArray, List.append_toArray, List.nil_append, List.cons_append]
  gi_wp2_with (refine ⟨trivial, ?_⟩; gi_at_call 65; refine (HLI.out _).mono ?_; rintro e w1 ⟨rfl, rfl⟩)
  obtain ⟨W0, hW0⟩ : ∃ W0, (W.alloc (.cells #[.func (.yield l) #[] #[]] 128)).alloc (.cells #[.string s] 9) = W0 := ⟨_, rfl⟩
  rw [hW0] at hb0 hY0 hS0 hsz ⊢
  clear hW0
  refine wpIn_rangeFunc_B (Bs := W.heap.size + 1) (by omega) rfl h1 (gf := 80) (lb := #[.pointer (some ⟨W.heap.size + 1, 0, none⟩)]) rfl trivial (enters_of Tryd.func80 (by kernel_rfl) rfl)
    (encs := encL) (Mm := fun x _ => x.size ≤ s.size) (Kp := KpL (W.heap.size + 1)) (S := fun xs => xs.map toL = lns (toL s)) (Sp := fun pre => pre.map toL <+: lns (toL s)) (N := 1000000)
    (fun V hV hs' => lines1_in (W0.heap.size + 1) (W.heap.size + 1) s hs (n - 1) (by omega) V (by have := hV.size; omega) (hS0.below hV hS0.lt))
    kpL_t (fun V r o' _ => kpL_b (by omega) V o') (fun _ => rfl) (fun x _ _ _ _ h _ _ => h)
    (fun C pre V => W.heap.size + 4 ≤ C → J C (pre.map cutX) V ∧ Blk V W.heap.size 128 #[.func (.yield l) #[] #[]])
    (fun C c pre V => W.heap.size + 4 ≤ C → c = .ret ∧ Jx C (pre.map cutX) V)
    (fun C s' X Y row hs' hg hr hC => ⟨hJ C _ X Y row (hs' hC).1 hg (fun r e => (hr r e).elim (fun h => ⟨by omega, .inl (by omega)⟩) (fun h => ⟨by have := h.1; omega, h.2⟩)), (hs' hC).2.grown hg (fun e => by rcases hr _ e.symm with h | h <;> omega)⟩)
    (fun C c s' X Y row hs' hg hr hC => ⟨(hs' hC).1, hJx C _ X Y row (hs' hC).2 hg (fun r e => (hr r e).elim (fun h => ⟨by omega, .inl (by omega)⟩) (fun h => ⟨by have := h.1; omega, h.2⟩))⟩)
    (fun C hC => ⟨(hJ C).below (HS.out C) hb0, hY0⟩)
    (fun x a' _ => a' = { tmps := #[.func (.yield l) #[] #[], .pointer (some ⟨Bn, 0, none⟩), .pointer (some ⟨W.heap.size, 0, none⟩), .string x, undef, undef, .string s,
      .func (.func 80) #[] #[.pointer (some ⟨W.heap.size + 1, 0, none⟩)], .string x, undef, undef, undef, undef, undef, undef, undef, undef, undef, undef], defers := [] })
    (fun x a' _ X Y row hs hg hr => hs)
    ?assign ?body ?done ?stop
  case assign =>
    rintro l' C pre x V K hC1 hC2 hi hmm hK
    simp only [encL] at hK ⊢
    gi_wp2
    exact hK _ _ (KeepsFrom.refl _ _) ⟨Nat.le_refl _, rfl⟩ hi hmm rfl
  case body =>
    rintro l' C pre x a' V hl1 hl2 hC1 hC2 hi hmm rfl hlt
    obtain ⟨hj, hyb⟩ := hi (by omega)
    obtain ⟨t, ht⟩ : ∃ t : ByteArray, t = (cutX x).1 := ⟨_, rfl⟩
    obtain ⟨q, hq⟩ : ∃ q : Bool, q = (cutX x).2 := ⟨_, rfl⟩
    have HCS := Lib.hid (fun V' => show CallsIn (Fence.wide.inRound l') (n - 1 - 1 - 1) Tryd.prog 66 #[.string x, .string ⟨#[10]⟩] V' fun e w' => e = .returned (.tuple #[.string t, .bool q]) ∧ w' = V' from
      callsIn_wide.2 (by rw [ht, hq]; exact Tryd.strings_CutSuffix x ⟨#[10]⟩ V' (by omega)))
    have hyd := hY C (pre.map cutX) (cutX x) V (by omega) hC2 hj (Nat.le_trans (cutX_size x) hmm) (by simpa using hlt)
    have hmap : pre.map cutX ++ [cutX x] = (pre ++ [x]).map cutX := by simp
    rw [hmap] at hyd
    simp only [encLW] at hyd
    rw [← ht, ← hq] at hyd
    have hyd := yield_deep (n - 1 - 1 - 1) l' hyd
    obtain ⟨fn, tmps, assign, body, hy, hR⟩ := hyd
    have y0 := hyb.cell 0
    have ylt := hyb.lt
    simp only [List.getElem?_toArray, List.getElem?_cons_zero] at y0
    have HYB := Lib.hid hyb
    have HR := Lib.hid hR
    clear hyb hR hi hj ht hq
    gi_wp2_with (refine ⟨trivial, fun _ => by omega, ?_⟩; refine (HCS.out _).mono ?_; rintro e w3 ⟨rfl, rfl⟩)
    refine ⟨fun _ => by omega, HR.out.mono ?_⟩
    rintro e V5 ⟨hk5, (⟨rfl, hj5⟩ | ⟨rfl, hj5⟩)⟩
    · gi_wp2
      exact ⟨⟨hk5.1.size, fun k o hk ho hc => hk5.1.same k o (by omega) ho hc⟩, ⟨hk5.1.size, hk5.2 _ (by omega) (by omega)⟩, fun _ => ⟨hj5, (hk5.2 _ (Nat.le_refl _) (by omega)).trans HYB.out⟩⟩
    · gi_wp2
      exact ⟨⟨hk5.1.size, fun k o hk ho hc => hk5.1.same k o (by omega) ho hc⟩, ⟨hk5.1.size, hk5.2 _ (by omega) (by omega)⟩, fun _ => ⟨rfl, hj5⟩⟩
  case done =>
    rintro D C ys V hD hC hys hi hK
    obtain ⟨hj, hyb⟩ := hi (by omega)
    gi_wp2
    refine ⟨by simp, .inl ⟨_, _, rfl, run_takeDeferred hK, ?_⟩⟩
    exact ⟨_, results_none rfl _ _ _, ⟨_, rfl⟩, C, by omega, .inl ⟨ys.map cutX, by rw [← hys, List.map_map, List.map_map]; exact List.map_congr_left fun x _ => cutX_nl x, (hJ _).putObj _ hj (by omega) hK rfl⟩⟩
  case stop =>
    rintro D C cc pre V hD hC hpre' hix hK
    obtain ⟨rfl, hj⟩ := hix (by omega)
    gi_wp2
    refine ⟨by simp, .inl ⟨_, _, rfl, run_takeDeferred hK, ?_⟩⟩
    obtain ⟨r, hr⟩ := hpre'
    exact ⟨_, results_none rfl _ _ _, ⟨_, rfl⟩, C, by omega, .inr ⟨pre.map cutX, ⟨r.map cutNl, by rw [← hr, List.map_append, List.map_map, List.map_map]; exact congrArg (· ++ _) (List.map_congr_left fun x _ => cutX_nl x)⟩, (hJx _).putObj _ hj (by omega) hK rfl⟩⟩
end
end Go.Proofs.YtoglmemmdolbmaaDoor.I
namespace Go.Proofs.YtoglmemmdolbmaaDoor.I
section
open Go.RowKit Go.Shelf Go.WideMaps
set_option linter.unusedVariables false
set_option linter.unusedSimpArgs false
attribute [local go_sem] Oper.semAt_some

/-! ## a map from words to numbers -/
theorem keyS : Maps.Keyed Tryd.prog 9 := Maps.string_keyed Tryd.underlying9
theorem zeroI (w : World) : (zeroValue 3).run Tryd.prog w = .ok (.int .i64 0) w := by kernel_rfl
def MapAt (W : World) (mb : Nat) (labs : List (List UInt8 × Int)) : Prop :=
  ∃ D : DataW Unit, W.ownsMap Tryd.prog 9 (plainElem Tryd.prog 3) mb labs.length D ∧ ∀ k, Maps.has D (.string k) = (labO labs k).isSome ∧ ∀ v, labO labs k = some v → D.atKey (.string k) (.lit (.int .i64 0)) = .lit (.int .i64 v)
section
variable {W W' : World} {mb : Nat} {labs : List (List UInt8 × Int)}
theorem MapAt.lt (h : MapAt W mb labs) : mb < W.heap.size := h.elim fun _ x => x.1.lt
theorem MapAt.kept {row : Option Nat} (h : MapAt W mb labs) (hg : W.grownBy W' row) (hne : some mb ≠ row) : MapAt W' mb labs := by
  obtain ⟨D, h1, h2⟩ := h
  exact ⟨D, h1.kept hg hne, h2⟩
theorem MapAt.below (h : MapAt W mb labs) (hb : Below W.heap.size W W') : MapAt W' mb labs := h.kept (grownBy_below hb) (by simp)
theorem MapAt.made (w : World) : MapAt (w.alloc (.map #[] 0)) w.heap.size [] :=
  ⟨_, World.ownsMap_made w _ _ _, fun k => ⟨rfl, fun v h => by cases h⟩⟩
/-- What stands at a word: a number, and whether there is one. -/
theorem MapAt.look (h : MapAt W mb labs) (s : ByteArray) (hs : s.size ≤ maxLen) :
    ∃ c : Int, (Instr.lookup 103 (.map (some mb)) (.string s) true).run Tryd.prog W = .ok (.tuple #[.int .i64 c, .bool (labO labs s.data.toList).isSome]) W ∧ ∀ v, labO labs s.data.toList = some v → c = v := by
  obtain ⟨D, h1, h2⟩ := h
  obtain ⟨v, ps, hrun, hv⟩ := h1.look_ok keyS Tryd.underlying103 (zeroI W) (plainElem_int Tryd.underlying3 (q := .i64) (a := 0) (by decide)) (keyOf_string_mk Tryd.underlying9 hs)
  obtain ⟨c, rfl, hc, _⟩ := plainElem_int_inv Tryd.underlying3 hv
  refine ⟨c, by rw [hrun, (h2 _).1], fun u hu => ?_⟩
  have h3 := (h2 _).2 u hu
  have h4 : D.atKey (.string s.data.toList) (.lit (.int .i64 0)) = .lit (.int .i64 c) := congrArg Prod.fst hc
  rw [h3] at h4
  simp only [DataW.lit.injEq, Lit.int.injEq, true_and] at h4
  exact h4.symm
theorem labO_cons (k n : List UInt8) (v : Int) (r : List (List UInt8 × Int)) : labO ((k, v) :: r) n = if k = n then some v else labO r n := rfl
end
/-! ## what the rest of memory does -/
/-- Whatever lies, lies, but some blocks, and rows of cells from C on. -/
structure KqS (S : Nat → Prop) (C : Nat) (W W' : World) : Prop where
  size : W.heap.size ≤ W'.heap.size
  os : W'.os = W.os
  tape : W'.tape = W.tape
  output : W'.output = W.output
  block : ∀ k, k < W.heap.size → ¬ S k → (C ≤ k → ∃ o, W.heap[k]? = some o ∧ o.isCells = false) → W'.heap[k]? = W.heap[k]?
section
variable {S S' : Nat → Prop} {C : Nat} {W X Y : World}
theorem KqS.refl (S : Nat → Prop) (C : Nat) (W : World) : KqS S C W W := ⟨Nat.le_refl _, rfl, rfl, rfl, fun _ _ _ _ => rfl⟩
theorem KqS.trans (h : KqS S C W X) (k : KqS S C X Y) : KqS S C W Y :=
  ⟨Nat.le_trans h.size k.size, k.os.trans h.os, k.tape.trans h.tape, k.output.trans h.output, fun i hi hs hc => by
    have e := h.block i hi hs hc
    exact (k.block i (Nat.lt_of_lt_of_le hi h.size) hs (fun h1 => by rw [e]; exact hc h1)).trans e⟩
theorem KqS.mono (h : KqS S C W X) (hS : ∀ k, S k → S' k) : KqS S' C W X := ⟨h.size, h.os, h.tape, h.output, fun k hk hs hc => h.block k hk (fun h1 => hs (hS k h1)) hc⟩
theorem KqS.below (h : KqS S C W X) (hb : Below X.heap.size X Y) : KqS S C W Y :=
  ⟨Nat.le_trans h.size hb.size, hb.os.trans h.os, hb.tape.trans h.tape, hb.output.trans h.output, fun k hk hs hc => (hb.block k (Nat.lt_of_lt_of_le hk h.size)).trans (h.block k hk hs hc)⟩
theorem KqS.set_ (h : KqS S C W X) {p : Addr} (hp : S p.block ∨ W.heap.size ≤ p.block) (u : Value) : KqS S C W (X.setCell p u) :=
  ⟨by simpa using h.size, h.os, h.tape, h.output, fun k hk hs hc => (Below.heap_setCell X p u k (fun e => by subst e; rcases hp with hp | hp; exact hs hp; omega)).trans (h.block k hk hs hc)⟩
theorem KqS.grown {row : Option Nat} (h : KqS S C W X) (hg : X.grownBy Y row) (hr : ∀ r, row = some r → S r ∨ W.heap.size ≤ r ∨ (C ≤ r ∧ ∃ o, W.heap[r]? = some o ∧ o.isCells = true)) : KqS S C W Y :=
  ⟨Nat.le_trans h.size hg.size, hg.os.trans h.os, hg.tape.trans h.tape, hg.output.trans h.output, fun k hk hs hc => by
    refine (hg.block k (Nat.lt_of_lt_of_le hk h.size) (fun e => ?_)).trans (h.block k hk hs hc)
    rcases hr k e.symm with h1 | h1 | ⟨hC, o, ho, hoc⟩
    · exact hs h1
    · omega
    · obtain ⟨o', ho', hoc'⟩ := hc hC
      rw [ho] at ho'
      injection ho' with ho'
      rw [← ho', hoc] at hoc'
      cases hoc'⟩
theorem KqS.blk {g : Nat} {t : TypeId} {cs : Array Value} (h : KqS S C W X) (hb : Blk W g t cs) (hs : ¬ S g) (hg : g < C) : Blk X g t cs := (h.block g hb.lt hs (fun hc => by omega)).trans hb
theorem KqS.bel {B : Nat} (h : KqS S C W X) (hS : ∀ k, S k → B ≤ k) (hC : B ≤ C) (hB : B ≤ W.heap.size) : Below B W X :=
  ⟨h.os, h.tape, h.output, h.size, fun k hk => h.block k (by omega) (fun hs => by have := hS k hs; omega) (fun hc => by omega)⟩
theorem KqS.keeps {B : Nat} (h : KqS S C W X) (hS : ∀ k, S k → k < B) : KeepsFrom B W X :=
  ⟨h.size, fun k o hk ho hoc => (h.block k (Array.getElem?_eq_some_iff.1 ho).1 (fun hs => by have := hS k hs; omega) (fun _ => ⟨o, ho, hoc⟩)).trans ho⟩
theorem KqS.kpI {B : Nat} (h : KqS S C W X) (hS : ∀ k, S k → k < B) (hC : C ≤ W.heap.size) : KpI B C W X :=
  ⟨h.keeps hS, fun k hk hk2 => h.block k (by omega) (fun hs => by have := hS k hs; omega) (fun hc => by omega)⟩
end
/-! ## rows of the call's own -/
theorem own_form {w : World} {base : Nat} {t : TypeId} {s : Nat} {v : Value} {n : Nat} {cs : List Value} (h : w.ownsRow base t s v n cs) : ∃ A c, v = .slice A n c := by
  rcases h.2 with ⟨rfl, rfl⟩ | ⟨g, cap, cur, rfl, _⟩
  · exact ⟨_, _, rfl⟩
  · exact ⟨_, _, rfl⟩
theorem own_below {w w' : World} {base : Nat} {t : TypeId} {s : Nat} {v : Value} {n : Nat} {cs : List Value} (h : w.ownsRow base t s v n cs) (hb : Below w.heap.size w w') : w'.ownsRow base t s v n cs :=
  h.kept (grownBy_below hb) (by cases v.ownBlock <;> simp)
theorem own_set {w : World} {base : Nat} {t : TypeId} {s : Nat} {v : Value} {n : Nat} {cs : List Value} {p : Addr} (h : w.ownsRow base t s v n cs) (hp : p.block < base) (u : Value) : (w.setCell p u).ownsRow base t s v n cs := by
  have hg : w.grownBy (w.setCell p u) (some p.block) := ⟨rfl, rfl, rfl, by simp [World.setCell], fun k hk hkn => Below.heap_setCell w p u k (fun e => hkn (by rw [e]))⟩
  refine h.kept hg ?_
  rcases h.2 with ⟨rfl, _⟩ | ⟨g, cap, cur, rfl, hb, _⟩
  · exact .inl rfl
  · refine .inr (fun e => ?_)
    have e' : p.block = g := by simpa [Value.ownBlock] using e.symm
    omega
theorem own_row {w : World} {base : Nat} {t : TypeId} {s : Nat} {v : Value} {n : Nat} {cs : List Value} (h : w.ownsRow base t s v n cs) : ∀ r, v.ownBlock = some r → base ≤ r ∧ ∃ o, w.heap[r]? = some o ∧ o.isCells = true := by
  rcases h.2 with ⟨rfl, _⟩ | ⟨g, cap, cur, rfl, hb, hgb, _⟩
  · intro r e
    simp [Value.ownBlock] at e
  · intro r e
    have e' : g = r := by simpa [Value.ownBlock] using e
    subst e'
    exact ⟨hb, _, hgb, rfl⟩
theorem own_lower {w : World} {b b' : Nat} {t : TypeId} {s : Nat} {v : Value} {n : Nat} {cs : List Value} (h : w.ownsRow b t s v n cs) (hb : b' ≤ b) : w.ownsRow b' t s v n cs := by
  refine ⟨h.1, ?_⟩
  rcases h.2 with h2 | ⟨g, cap, cur, h3, h4, h5⟩
  · exact .inl h2
  · exact .inr ⟨g, cap, cur, h3, Nat.le_trans hb h4, h5⟩

/-! ## the program -/
def JmpS.cells (j : JmpS) : List Value := [.int .i64 j.pl, .int .i64 j.x.op, .int .i64 j.x.a, .int .i64 j.x.b, .int .i64 j.x.imm, .string ⟨j.lab.toArray⟩, .int .i64 j.line]
def wVals (ws : List Int) : List Value := ws.map (Value.int .u32)
structure PgAt (W : World) (base pb mb : Nat) (p : PgS) (v1 v2 : Value) : Prop where
  blk : Blk W pb 106 #[v1, .map (some mb), v2]
  words : W.ownsRow base 22 1 v1 p.words.length (wVals p.words)
  labs : MapAt W mb p.labs
  jumps : W.ownsRow base 112 7 v2 p.jumps.length (p.jumps.flatMap JmpS.cells)
  apart : ∀ r, v1.ownBlock = some r → v2.ownBlock ≠ some r
  lp : pb < base
  lm : mb < base
  lb : base ≤ W.heap.size
section
variable {W W' : World} {base pb mb : Nat} {p : PgS} {v1 v2 : Value}
theorem PgAt.below (h : PgAt W base pb mb p v1 v2) (hb : Below W.heap.size W W') : PgAt W' base pb mb p v1 v2 :=
  ⟨h.blk.below hb h.blk.lt, own_below h.words hb, h.labs.below hb, own_below h.jumps hb, h.apart, h.lp, h.lm, Nat.le_trans h.lb hb.size⟩
theorem PgAt.ne (h : PgAt W base pb mb p v1 v2) : pb ≠ mb := by
  intro e
  obtain ⟨D, ⟨es, clock, hb, _⟩, _⟩ := h.labs
  have h1 := h.blk
  unfold Blk at h1
  rw [e, hb] at h1
  cases h1
/-- One label more. -/
theorem PgAt.label (h : PgAt W base pb mb p v1 v2) (s : ByteArray) (hs : s.size ≤ maxLen) (hw : p.words.length ≤ 1000000) (hl : p.labs.length < maxLen) :
    ∃ W', (Instr.mapUpdate 103 (.map (some mb)) (.string s) (.int .i64 p.words.length)).run Tryd.prog W = .ok () W' ∧ PgAt W' base pb mb ⟨p.words, (s.data.toList, (p.words.length : Int)) :: p.labs, p.jumps⟩ v1 v2 ∧ W.grownBy W' (some mb) := by
  obtain ⟨D, h1, h2⟩ := h.labs
  have hwf : (Lit.int .i64 (p.words.length : Int)).wf = true := WalkArith.wf_i64 (by omega)
  obtain ⟨W', hrun, hown, hg⟩ := h1.update keyS Tryd.underlying103 hl (keyOf_string_mk Tryd.underlying9 hs) (plainElem_int Tryd.underlying3 hwf)
  have hnm : ∀ (r : Nat), base ≤ r → some r ≠ some mb := fun r hr e => by injection e with e; have := h.lm; omega
  have hw1 : v1.ownBlock = none ∨ v1.ownBlock ≠ some mb := by
    cases hv : v1.ownBlock with
    | none => exact .inl rfl
    | some r => exact .inr (hnm r (own_row h.words r hv).1)
  have hw2 : v2.ownBlock = none ∨ v2.ownBlock ≠ some mb := by
    cases hv : v2.ownBlock with
    | none => exact .inl rfl
    | some r => exact .inr (hnm r (own_row h.jumps r hv).1)
  refine ⟨W', hrun, ⟨h.blk.grown hg (fun e => h.ne (by injection e)), h.words.kept hg hw1, ⟨_, hown, fun k => ?_⟩, h.jumps.kept hg hw2, h.apart, h.lp, h.lm, Nat.le_trans h.lb hg.size⟩, hg⟩
  have hI := h1.isMap
  show _ = (labO ((s.data.toList, (p.words.length : Int)) :: p.labs) k).isSome ∧ ∀ v, labO ((s.data.toList, (p.words.length : Int)) :: p.labs) k = some v → _
  rw [labO_cons]
  by_cases hk : s.data.toList = k
  · subst hk
    rw [if_pos rfl, Maps.has_put_same hI (by trivial), Maps.atKey_put_same hI (by trivial)]
    exact ⟨by simp, fun v hv => by simp only [Option.some.injEq] at hv; rw [hv]⟩
  · have hk' : (Lit.string k) ≠ Lit.string s.data.toList := fun e => by simp only [Lit.string.injEq] at e; exact hk e.symm
    rw [if_neg hk, Maps.has_put_other hk', Maps.atKey_put_other hk']
    exact h2 k
end
end
end Go.Proofs.YtoglmemmdolbmaaDoor.I
namespace Go.Proofs.YtoglmemmdolbmaaDoor.I
section
open Go.RowKit Go.Shelf Go.WideMaps
set_option linter.unusedVariables false
set_option linter.unusedSimpArgs false
attribute [local go_sem] Oper.semAt_some

def SLow (pb mb : Nat) (k : Nat) : Prop := k = pb ∨ k = mb
/-- What take leaves. -/
def TakeOut (W : World) (base pb mb : Nat) (r : PgS × Bool) (e : Ending) (W' : World) : Prop :=
  e = .returned (.bool r.2) ∧ ∃ v1' v2', PgAt W' base pb mb r.1 v1' v2' ∧ KqS (SLow pb mb) base W W'
theorem takeOut_same {W W' : World} {base pb mb : Nat} {p : PgS} {v1 v2 : Value} (h : PgAt W base pb mb p v1 v2) (hb : Below W.heap.size W W') (q : Bool) : TakeOut W base pb mb (p, q) (.returned (.bool q)) W' :=
  ⟨rfl, v1, v2, h.below hb, (KqS.refl _ _ _).below hb⟩
theorem cutSuf_some {c : UInt8} {l n : List UInt8} (h : cutSuf c l = some n) : Lib.hasSuffix l [c] = true ∧ Lib.trimSuffix l [c] = n := by
  unfold cutSuf at h
  rw [hasSuf_one, trimSuf_one]
  split at h
  · rename_i h1
    simp only [Option.some.injEq] at h
    rw [if_pos h1]
    exact ⟨decide_eq_true h1, h⟩
  · cases h
theorem cutSuf_none {c : UInt8} {l : List UInt8} (h : cutSuf c l = none) : Lib.hasSuffix l [c] = false ∧ Lib.trimSuffix l [c] = l := by
  unfold cutSuf at h
  rw [hasSuf_one, trimSuf_one]
  split at h
  · cases h
  · rename_i h1
    rw [if_neg h1]
    exact ⟨decide_eq_false h1, rfl⟩
theorem cutSuf_len {c : UInt8} {l n : List UInt8} (h : cutSuf c l = some n) : n.length ≤ l.length := by
  unfold cutSuf at h
  split at h
  · simp only [Option.some.injEq] at h
    rw [← h, List.length_dropLast]
    omega
  · cases h

set_option maxRecDepth 100000 in
set_option maxHeartbeats 4000000 in
theorem take_label {W : World} (hG : Ground W) {base pb mb : Nat} {p : PgS} {v1 v2 : Value} (h : PgAt W base pb mb p v1 v2) (s : ByteArray) (hs : s.size ≤ 1000000) (line : Int) (hw : p.words.length ≤ 512) (hl : p.labs.length ≤ 1000000)
    {n : List UInt8} (hn : cutSuf 58 s.data.toList = some n) :
    Calls Tryd.prog 49 #[.pointer (some ⟨pb, 0, none⟩), .string s, .int .i64 line] W (TakeOut W base pb mb (takeP p s.data.toList line)) := by
  obtain ⟨t, ht⟩ : ∃ t : ByteArray, t = ⟨n.toArray⟩ := ⟨_, rfl⟩
  have htl : t.data.toList = n := by rw [ht]
  have hts : t.size ≤ 1000000 := by
    have e : t.size = n.length := by rw [← htl]; exact (Array.length_toList).symm
    have e2 : s.data.toList.length = s.size := rfl
    have := cutSuf_len hn
    omega
  obtain ⟨e1, e2⟩ := cutSuf_some hn
  have HCS := Lib.hid (fun V => show Calls Tryd.prog 66 #[.string s, .string ⟨#[58]⟩] V fun e w' => e = .returned (.tuple #[.string t, .bool true]) ∧ w' = V from by
    have h1 := Tryd.strings_CutSuffix s ⟨#[58]⟩ V (by omega)
    simp only at h1
    rw [e1, e2] at h1
    rw [ht]
    exact h1)
  have htp : takeP p s.data.toList line = if (labO p.labs t.data.toList).isSome || !nameB t.data.toList then (p, false) else (⟨p.words, (t.data.toList, (p.words.length : Int)) :: p.labs, p.jumps⟩, true) := by
    unfold takeP
    rw [hn, htl]
  rw [htp]
  obtain ⟨c, hlook, hcv⟩ := h.labs.look t (by unfold maxLen; omega)
  obtain ⟨A1, c1, hv1⟩ := own_form h.words
  obtain ⟨A2, c2, hv2⟩ := own_form h.jumps
  have HN := Lib.hid (fun V => nameW_any V t)
  obtain ⟨lb, hlb⟩ : ∃ q, (labO p.labs t.data.toList).isSome = q := ⟨_, rfl⟩
  obtain ⟨nb, hnb⟩ : ∃ q, nameB t.data.toList = q := ⟨_, rfl⟩
  rw [hlb] at hlook
  rw [hlb, hnb]
  rw [hnb] at HN
  have b0 := h.blk.cell 0
  have b1 := h.blk.cell 1
  have b2 := h.blk.cell 2
  have blt := h.blk.lt
  simp only [List.getElem?_toArray, List.getElem?_cons_zero, List.getElem?_cons_succ] at b0 b1 b2
  rw [hv1] at b0
  rw [hv2] at b2
  have HP := Lib.hid h
  have hwl : (p.words.length : Int) ≤ 512 := by omega
  have HT := Lib.hid (show t.size ≤ 1000000 from hts)
  have HV1 := Lib.hid hv1
  have HV2 := Lib.hid hv2
  have HLL := Lib.hid hl
  have HWL := Lib.hid hw
  clear ht htl hn e1 e2 hcv hlb hnb htp hts hs h hv1 hv2 hG hl hw
  cases lb with
  | true =>
    go_enter Tryd.func49, Tryd.ntmps49
    go_wp2_with fail
    refine (HCS.out _).mono ?_
    rintro e w1 ⟨rfl, rfl⟩
    go_wp2
    go_ret
    exact takeOut_same HP.out (by first | exact Below.refl _ _ | (refine below_drewN ?_ _; exact Below.refl _ _)) false
  | false =>
    cases nb with
    | false =>
      go_enter Tryd.func49, Tryd.ntmps49
      go_wp2_with fail
      refine (HCS.out _).mono ?_
      rintro e w1 ⟨rfl, rfl⟩
      go_wp2_with fail
      refine (HN.out _).mono ?_
      rintro e w2 ⟨rfl, hb2⟩
      have HB2 := Lib.hid hb2
      clear hb2 hlook b0 b1 b2 blt
      go_wp2
      go_ret
      exact takeOut_same HP.out HB2.out false
    | true =>
      go_enter Tryd.func49, Tryd.ntmps49
      go_wp2_with fail
      refine (HCS.out _).mono ?_
      rintro e w1 ⟨rfl, rfl⟩
      go_wp2_with fail
      refine (HN.out _).mono ?_
      rintro e w2 ⟨rfl, hb2⟩
      have hP2 := HP.out.below hb2
      have HB2 := Lib.hid hb2
      clear hb2 hlook b0 b1 b2 blt
      have b0 := hP2.blk.cell 0
      have b1 := hP2.blk.cell 1
      have blt := hP2.blk.lt
      simp only [List.getElem?_toArray, List.getElem?_cons_zero, List.getElem?_cons_succ] at b0 b1
      rw [HV1.out] at b0
      have HP2 := Lib.hid hP2
      clear hP2
      go_upto_region 6 with (fail)
      go_still_tail 10, (by kernel_rfl)
      change wpList _ _ _ _ _ w2.drew
      obtain ⟨W3, hrun, hP3, hg3⟩ := (HP2.out.below (Below.refl _ _).drew).label t (by have := HT.out; unfold maxLen; omega) (by have := HWL.out; omega) (by have := HLL.out; unfold maxLen; omega)
      have HP3 := Lib.hid hP3
      have HK3 := Lib.hid (((KqS.refl (SLow pb mb) base _).below (HB2.out.drew)).grown hg3 (fun r e => .inl (.inr (by injection e with e; exact e.symm))))
      clear hP3 hg3 b0 b1 blt
      generalize w2.drew = w3 at *
      go_wp2
      go_ret
      exact ⟨rfl, v1, v2, HP3.out, HK3.out⟩
end
end Go.Proofs.YtoglmemmdolbmaaDoor.I
