/-
  script.Parse: the script of a text. Condition: the tables lie as the program's text, and the library's, lay them.
-/
import Derived.Test.YtgefnicpkfcghaaDoorScT
import Derived.Test.YtgefnicpkfcghaaDoorLines
import Derived.Test.YtgefnicpkfcghaaDoorRes
namespace Go.Proofs.YtgefnicpkfcghaaDoor
open Go.RowKit Go.Shelf
set_option linter.unusedVariables false
set_option linter.unusedSimpArgs false
attribute [local go_sem] Oper.semAt_some

def endsL (l : List UInt8) : Bool := Lib.hasSuffix l [10]
def trimL (l : List UInt8) : List UInt8 := Lib.trimSuffix l [10]
/-- What a line, with its end, says. -/
def lineS (l : List UInt8) : Option O := if endsL l then readO (trimL l) else none
theorem trim_len (l : List UInt8) : (trimL l).length ≤ l.length := by
  unfold trimL Lib.trimSuffix
  split
  · rw [List.length_take]; omega
  · exact Nat.le_refl _

/-- Whatever lies, lies, but three blocks (from b0 on), and rows of cells from C on. -/
structure Kq (b0 C : Nat) (W W' : World) : Prop where
  size : W.heap.size ≤ W'.heap.size
  os : W'.os = W.os
  tape : W'.tape = W.tape
  output : W'.output = W.output
  block : ∀ k, k < W.heap.size → k ≠ b0 → k ≠ b0 + 1 → k ≠ b0 + 2 → (C ≤ k → ∃ o, W.heap[k]? = some o ∧ o.isCells = false) → W'.heap[k]? = W.heap[k]?
section
variable {b0 C : Nat} {W X Y : World}
theorem Kq.refl (b0 C : Nat) (W : World) : Kq b0 C W W := ⟨Nat.le_refl _, rfl, rfl, rfl, fun _ _ _ _ _ _ => rfl⟩
theorem Kq.below (h : Kq b0 C W X) (hb : Below X.heap.size X Y) : Kq b0 C W Y :=
  ⟨Nat.le_trans h.size hb.size, hb.os.trans h.os, hb.tape.trans h.tape, hb.output.trans h.output, fun k hk h0 h1 h2 hc => (hb.block k (Nat.lt_of_lt_of_le hk h.size)).trans (h.block k hk h0 h1 h2 hc)⟩
theorem Kq.setLow (h : Kq b0 C W X) {p : Addr} (hp : p.block = b0 ∨ p.block = b0 + 1 ∨ p.block = b0 + 2) (u : Value) : Kq b0 C W (X.setCell p u) :=
  ⟨by simpa using h.size, h.os, h.tape, h.output, fun k hk h0 h1 h2 hc => (Below.heap_setCell X p u k (by omega)).trans (h.block k hk h0 h1 h2 hc)⟩
theorem Kq.setNew (h : Kq b0 C W X) {p : Addr} (hp : W.heap.size ≤ p.block) (u : Value) : Kq b0 C W (X.setCell p u) :=
  ⟨by simpa using h.size, h.os, h.tape, h.output, fun k hk h0 h1 h2 hc => (Below.heap_setCell X p u k (by omega)).trans (h.block k hk h0 h1 h2 hc)⟩
theorem Kq.grown {row : Option Nat} (h : Kq b0 C W X) (hg : X.grownBy Y row) (hr : ∀ r, row = some r → C ≤ r ∧ ∃ o, W.heap[r]? = some o ∧ o.isCells = true) : Kq b0 C W Y :=
  ⟨Nat.le_trans h.size hg.size, hg.os.trans h.os, hg.tape.trans h.tape, hg.output.trans h.output, fun k hk h0 h1 h2 hc => by
    refine (hg.block k (Nat.lt_of_lt_of_le hk h.size) (fun e => ?_)).trans (h.block k hk h0 h1 h2 hc)
    obtain ⟨hC, o, ho, hoc⟩ := hr k e.symm
    obtain ⟨o', ho', hoc'⟩ := hc hC
    rw [ho] at ho'
    injection ho' with ho'
    rw [ho', hoc'] at hoc
    cases hoc⟩
theorem Kq.kp (h : Kq b0 C W X) (hC : b0 + 3 < C) (hW : C ≤ W.heap.size) : KpL (b0 + 3) W X := ⟨h.size, h.block _ (by omega) (by omega) (by omega) (by omega) (fun hc => by omega)⟩
theorem Kq.bel {w : World} (h : Kq w.heap.size C W X) (hC : w.heap.size < C) (hb : Below w.heap.size w W) : Below w.heap.size w X :=
  ⟨h.os.trans hb.os, h.tape.trans hb.tape, h.output.trans hb.output, Nat.le_trans hb.size h.size, fun k hk => (h.block k (by have := hb.size; omega) (by omega) (by omega) (by omega) (fun hc => by omega)).trans (hb.block k hk)⟩
theorem Kq.from_ {B : Nat} {t0 t1 t2 : TypeId} {c0 c1 c2 : Array Value} (h : Kq b0 C W X) (h0 : Blk W b0 t0 c0) (h1 : Blk W (b0 + 1) t1 c1) (h2 : Blk W (b0 + 2) t2 c2) : KeepsFrom B W X :=
  ⟨h.size, fun k o _ ho hoc => by
    have hlt := (Array.getElem?_eq_some_iff.1 ho).1
    have hne : ∀ {b : Nat} {t : TypeId} {c : Array Value}, Blk W b t c → k ≠ b := fun {b t c} hb e => by
      subst e
      have := (show W.heap[k]? = _ from hb).symm.trans ho
      injection this with this
      rw [← this] at hoc
      cases hoc
    exact (h.block k hlt (hne h0) (hne h1) (hne h2) (fun _ => ⟨o, ho, hoc⟩)).trans ho⟩
end

/-- What lies in a round: the three results, and the trace so far. -/
structure PI (w : World) (C : Nat) (acc : List O) (k : Nat) (v : Value) (W : World) : Prop where
  l : Blk W w.heap.size 37 #[v]
  n : Blk W (w.heap.size + 1) 3 #[.int .i64 k]
  e : Blk W (w.heap.size + 2) 25 #[.int .i64 0]
  own : OwnO W C v acc
  b : Below w.heap.size w W
structure PX (w : World) (k : Nat) (W : World) : Prop where
  l : Blk W w.heap.size 37 #[.slice none 0 0]
  n : Blk W (w.heap.size + 1) 3 #[.int .i64 k]
  e : Blk W (w.heap.size + 2) 25 #[.int .i64 200]
  b : Below w.heap.size w W
theorem own_grown {w w' : World} {B base : Nat} {v : Value} {l : List O} {row : Option Nat} {C : Nat} (h : OwnO w base v l) (hg : w.grownBy w' row) (hC : C ≤ base) (hB : B + 4 ≤ C) (hr : ∀ r, row = some r → r = B + 3 ∨ (B + 4 ≤ r ∧ (r < C ∨ ∃ o : Obj, w.heap[r]? = some o ∧ o.isCells = false))) : OwnO w' base v l := by
  refine h.kept hg ?_
  rcases h.2 with ⟨rfl, _⟩ | ⟨g, cap, cur, rfl, hb, hgb, _⟩
  · exact .inl rfl
  · refine .inr (fun e => ?_)
    have e' : row = some g := by simpa [Value.ownBlock] using e.symm
    rcases hr g e' with h1 | ⟨h1, h2 | ⟨o, ho, hoc⟩⟩
    · omega
    · omega
    · rw [hgb] at ho
      injection ho with ho
      rw [← ho] at hoc
      cases hoc
theorem PI.grown {w W W' : World} {C : Nat} {acc : List O} {k : Nat} {v : Value} {row : Option Nat} (h : PI w C acc k v W) (hC : w.heap.size + 4 ≤ C) (hg : W.grownBy W' row) (hr : ∀ r, row = some r → r = w.heap.size + 3 ∨ (w.heap.size + 4 ≤ r ∧ (r < C ∨ ∃ o : Obj, W.heap[r]? = some o ∧ o.isCells = false))) : PI w C acc k v W' :=
  ⟨h.l.grown hg (fun e => by rcases hr _ e.symm with h | h <;> omega), h.n.grown hg (fun e => by rcases hr _ e.symm with h | h <;> omega), h.e.grown hg (fun e => by rcases hr _ e.symm with h | h <;> omega),
    own_grown h.own hg (Nat.le_refl _) hC hr, h.b.grown hg h.b.size (fun r e => by rcases hr r e with h | h <;> omega)⟩
theorem PX.grown {w W W' : World} {C k : Nat} {row : Option Nat} (h : PX w k W) (hg : W.grownBy W' row) (hr : ∀ r, row = some r → r = w.heap.size + 3 ∨ (w.heap.size + 4 ≤ r ∧ (r < C ∨ ∃ o : Obj, W.heap[r]? = some o ∧ o.isCells = false))) : PX w k W' :=
  ⟨h.l.grown hg (fun e => by rcases hr _ e.symm with h | h <;> omega), h.n.grown hg (fun e => by rcases hr _ e.symm with h | h <;> omega), h.e.grown hg (fun e => by rcases hr _ e.symm with h | h <;> omega),
    h.b.grown hg h.b.size (fun r e => by rcases hr r e with h | h <;> omega)⟩

theorem PI.below {w W W' : World} {C : Nat} {acc : List O} {k : Nat} {v : Value} (h : PI w C acc k v W) (hb : Below W.heap.size W W') : PI w C acc k v W' :=
  ⟨h.l.below hb h.l.lt, h.n.below hb h.n.lt, h.e.below hb h.e.lt, ownsRow_below h.own hb, h.b.trans (hb.mono h.b.size)⟩
def goodP (pre : List ByteArray) (acc : List O) : Prop := pre.length ≤ 10000 ∧ pre.map (fun s => lineS (toL s)) = acc.map some
def badP (pre : List ByteArray) : Prop := ∃ ini x acc, pre = ini ++ [x] ∧ goodP ini acc ∧ (lineS (toL x) = none ∨ 10000 ≤ ini.length)
theorem goodP_len {pre : List ByteArray} {acc : List O} (h : goodP pre acc) : acc.length = pre.length := by
  have := congrArg List.length h.2
  simpa using this.symm
/-- What Parse has told. -/
def ParseOut (w : World) (s : List UInt8) (e : Ending) (w' : World) : Prop :=
  (∃ v acc, e = .returned (.tuple #[v, .int .i64 0, .int .i64 0]) ∧ OwnO w' w.heap.size v acc ∧ (lns s).map lineS = acc.map some ∧ (lns s).length ≤ 10000 ∧ Below w.heap.size w w') ∨
  (∃ k : Nat, e = .returned (.tuple #[.slice none 0 0, .int .i64 ((k + 1 : Nat) : Int), .int .i64 200]) ∧ k ≤ 10000 ∧ (∃ acc : List O, ((lns s).take k).map lineS = acc.map some) ∧ (∃ x, (lns s)[k]? = some x ∧ (lineS x = none ∨ 10000 ≤ k)) ∧ Below w.heap.size w w')

set_option maxRecDepth 100000 in
set_option maxHeartbeats 8000000 in
theorem parse_in (n : Nat) (hn : 6 ≤ n) {w : World} (hG : Ground w) (s : ByteArray) (hs : s.size ≤ 1000000) :
    CallsIn Fence.wide n Tryd.prog 19 #[.string s] w (ParseOut w (toL s)) := by
  have h1 : 1 ≤ n := by omega
  obtain ⟨i0, hi, hz0, hz1, hz2⟩ := info_parts infoO
  have HG := Lib.hid hG
  have HPI := Lib.hid (fun W => lines_in (n - 1) s W)
  clear hG
  refine callsIn_of_wp_marks Tryd.func19 rfl trivial ?_ rfl
  simp only [Tryd.ntmps19, List.size_toArray, List.length_cons, List.length_nil, Nat.reduceAdd, Nat.reduceSub, Array.replicate_succ, Array.replicate_zero, List.push_toArray, List.append_toArray, List.nil_append, List.cons_append]
  gi_wp2_with (refine ⟨trivial, ?_⟩; gi_at_call 43; refine (HPI.out _).mono ?_; rintro e w' ⟨rfl, rfl⟩)
  have hL0 := (((Blk.new w 37 #[.slice none 0 0]).alloc (.cells #[.int .i64 0] 3)).alloc (.cells #[.int .i64 0] 25)).alloc (.cells #[.string s] 9)
  have hN0 := ((Blk.new (w.alloc (.cells #[.slice none 0 0] 37)) 3 #[.int .i64 0]).alloc (.cells #[.int .i64 0] 25)).alloc (.cells #[.string s] 9)
  have hE0 := (Blk.new ((w.alloc (.cells #[.slice none 0 0] 37)).alloc (.cells #[.int .i64 0] 3)) 25 #[.int .i64 0]).alloc (.cells #[.string s] 9)
  have hS0 := Blk.new (((w.alloc (.cells #[.slice none 0 0] 37)).alloc (.cells #[.int .i64 0] 3)).alloc (.cells #[.int .i64 0] 25)) 9 #[.string s]
  have hb0 := ((((Below.refl w.heap.size w).alloc (Nat.le_refl _) (.cells #[.slice none 0 0] 37)).alloc (by simp) (.cells #[.int .i64 0] 3)).alloc (by simp; omega) (.cells #[.int .i64 0] 25)).alloc (by simp; omega) (.cells #[.string s] 9)
  have hsz : ((((w.alloc (.cells #[.slice none 0 0] 37)).alloc (.cells #[.int .i64 0] 3)).alloc (.cells #[.int .i64 0] 25)).alloc (.cells #[.string s] 9)).heap.size = w.heap.size + 4 := by simp
  simp only [World.size_alloc] at hN0 hE0 hS0
  generalize ((((w.alloc (.cells #[.slice none 0 0] 37)).alloc (.cells #[.int .i64 0] 3)).alloc (.cells #[.int .i64 0] 25)).alloc (.cells #[.string s] 9)) = W0 at *
  refine wpIn_rangeFunc_B (Bs := w.heap.size + 3) (by omega) rfl h1 (gf := 60) (lb := #[.pointer (some ⟨w.heap.size + 1 + 1 + 1, 0, none⟩)]) rfl trivial (enters_of Tryd.func60 (by kernel_rfl) rfl)
    (encs := encL) (Mm := fun x _ => x.size ≤ s.size) (Kp := KpL (w.heap.size + 3)) (S := fun xs => xs.map toL = lns (toL s)) (Sp := fun pre => pre.map toL <+: lns (toL s)) (N := 1000000)
    (fun W hW hs' => lines1_in (W0.heap.size + 1) (w.heap.size + 3) s hs (n - 1) (by omega) W (by have := hW.size; omega) (hS0.below hW hS0.lt))
    kpL_t (fun W r o' _ => kpL_b (by omega) W o') (fun _ => rfl) (fun x _ _ _ _ h _ _ => h)
    (fun C pre W => w.heap.size + 4 ≤ C → ∃ acc v, goodP pre acc ∧ PI w C acc pre.length v W)
    (fun C c pre W => w.heap.size + 4 ≤ C → c = .ret ∧ badP pre ∧ PX w pre.length W)
    (fun C s X Y row hs hg hr hC => by
      obtain ⟨acc, v, h1, h2⟩ := hs hC
      exact ⟨acc, v, h1, h2.grown hC hg (fun r e => (hr r e).elim .inl (fun h => .inr ⟨by have := h.1; omega, h.2⟩))⟩)
    (fun C c s X Y row hs hg hr hC => by
      obtain ⟨h0, h1, h2⟩ := hs hC
      exact ⟨h0, h1, h2.grown (C := C) hg (fun r e => (hr r e).elim .inl (fun h => .inr ⟨by have := h.1; omega, h.2⟩))⟩)
    (fun C hC => ⟨[], _, ⟨Nat.zero_le _, rfl⟩, hL0, hN0, hE0, World.ownsRow_nil _ _ _ _, hb0⟩)
    (fun x a' W => a' = { tmps := #[.string s, undef, .pointer (some ⟨w.heap.size, 0, none⟩), .pointer (some ⟨w.heap.size + 1, 0, none⟩), .pointer (some ⟨w.heap.size + 1 + 1, 0, none⟩), .string x, undef, undef, .string s,
      .func (.func 60) #[] #[.pointer (some ⟨w.heap.size + 1 + 1 + 1, 0, none⟩)], .string x, undef, undef, undef, undef, undef, undef, undef, undef, undef, undef, undef, undef, undef, undef, undef, undef, undef, undef, undef, undef, undef, undef, undef, undef, undef], defers := [] })
    (fun x a' _ X Y row hs hg hr => hs)
    ?assign ?body ?done ?stop
  case assign =>
    rintro l C pre x W K hC1 hC2 hi hmm hK
    simp only [encL] at hK ⊢
    gi_wp2
    exact hK _ _ (KeepsFrom.refl _ _) ⟨Nat.le_refl _, rfl⟩ hi hmm rfl
  case body =>
    rintro l C pre x a' W hl1 hl2 hC1 hC2 hi hmm rfl hlt
    obtain ⟨acc, v, hgood, hpi⟩ := hi (by omega)
    have hlx : (toL x).length = x.size := by unfold toL; rw [Array.length_toList]; rfl
    obtain ⟨t, ht⟩ : ∃ t : ByteArray, t = ⟨(trimL (toL x)).toArray⟩ := ⟨_, rfl⟩
    have htL : t.data.toList = trimL (toL x) := by rw [ht]
    have hts : t.size ≤ 1000000 := by
      have e : t.size = (trimL (toL x)).length := by rw [ht]; exact List.size_toArray
      have := trim_len (toL x)
      omega
    have HT := Lib.hid (fun W => show CallsIn (Fence.wide.inRound l) (n - 1 - 1 - 1) Tryd.prog 44 #[.string x, .string ⟨#[10]⟩] W fun e w' => e = .returned (.string t) ∧ w' = W from
      callsIn_wide.2 (by rw [ht]; exact Tryd.strings_TrimSuffix x ⟨#[10]⟩ W (by omega)))
    obtain ⟨eb, heb⟩ : ∃ eb, eb = endsL (toL x) := ⟨_, rfl⟩
    have HE := Lib.hid (fun W => show CallsIn (Fence.wide.inRound l) (n - 1 - 1 - 1) Tryd.prog 45 #[.string x, .string ⟨#[10]⟩] W fun e w' => e = .returned (.bool eb) ∧ w' = W from
      callsIn_wide.2 (by rw [heb]; exact Tryd.strings_HasSuffix x ⟨#[10]⟩ W (by omega)))
    obtain ⟨rd, hrd⟩ : ∃ rd, rd = readO (trimL (toL x)) := ⟨_, rfl⟩
    obtain ⟨k_, co, nn, p, sg, mk, nm, hsa⟩ : ∃ (k_ co nn p sg mk : Int) (nm : ByteArray), opA rd = #[.int .i64 k_, .int .i64 co, .int .i64 nn, .int .i64 p, .int .i64 sg, .int .u32 mk, .string nm] := by
      cases rd with
      | none => exact ⟨0, 0, 0, 0, 0, 0, _, rfl⟩
      | some y => exact ⟨y.k, y.co, y.n, y.p, y.s, y.m, y.w, rfl⟩
    obtain ⟨er, her⟩ : ∃ er, er = errO rd := ⟨_, rfl⟩
    have HR := Lib.hid (fun W (hW : Below w.heap.size w W) => show CallsIn (Fence.wide.inRound l) (n - 1 - 1 - 1) Tryd.prog 12 #[.string t] W fun e w' => e = .returned (.tuple #[.agg #[.int .i64 k_, .int .i64 co, .int .i64 nn, .int .i64 p, .int .i64 sg, .int .u32 mk, .string nm], .int .i64 er]) ∧ Below W.heap.size W w' from
      callsIn_wide.2 (by
        have h := read_any (HG.out.below hW) t hts
        rw [htL, ← hrd, hsa, ← her] at h
        exact h))
    have HI := Lib.hid hpi
    have hn0 := hpi.n.cell 0
    have hnf := hpi.n.frozen 0
    have hnl := hpi.n.lt
    simp only [List.getElem?_toArray, List.getElem?_cons_zero] at hn0
    obtain ⟨m, hm⟩ : ∃ m, m = pre.length := ⟨_, rfl⟩
    have hm0 : m ≤ 10000 := by rw [hm]; exact hgood.1
    rw [← hm] at hn0
    have HGOOD := Lib.hid hgood
    have HHM := Lib.hid hm
    clear hpi hgood hi hlx ht htL hts hm
    gi_wp2
    have hK2 : Kq w.heap.size C W (W.setCell ⟨w.heap.size + 1, 0, none⟩ (.int .i64 ((m : Int) + 1))) := (Kq.refl _ _ W).setLow (.inr (.inl rfl)) _
    have hP2 : PI w C acc (m + 1) v (W.setCell ⟨w.heap.size + 1, 0, none⟩ (.int .i64 ((m : Int) + 1))) :=
      ⟨HI.out.l.far (by simp) _, box_set HI.out.n _, HI.out.e.far (by simp) _, own_set HI.out.own (by simp; omega) _, HI.out.b.setCell (by simp) _⟩
    clear hn0 hnf hnl
    generalize W.setCell ⟨w.heap.size + 1, 0, none⟩ (.int .i64 ((m : Int) + 1)) = W2 at *
    refine ⟨trivial, fun _ => by omega, (HT.out _).mono ?_⟩
    rintro e _ ⟨rfl, rfl⟩
    gi_wp2
    refine ⟨trivial, fun _ => by omega, (HR.out _ hP2.b).mono ?_⟩
    rintro e W3 ⟨rfl, hb3⟩
    have hK3 := hK2.below hb3
    have hP3 := hP2.below hb3
    clear hK2 hP2 hb3 HT HR
    have hl0 := hP3.l.cell 0
    have hlf := hP3.l.frozen 0
    have hn0 := hP3.n.cell 0
    have hnf := hP3.n.frozen 0
    have he0 : W3.cell? ⟨w.heap.size + 1 + 1, 0, none⟩ = _ := hP3.e.cell 0
    have hef : W3.frozen? ⟨w.heap.size + 1 + 1, 0, none⟩ = false := hP3.e.frozen 0
    have hll := hP3.l.lt
    have hnl := hP3.n.lt
    have hel : w.heap.size + 1 + 1 < W3.heap.size := hP3.e.lt
    simp only [List.getElem?_toArray, List.getElem?_cons_zero] at hl0 hn0 he0
    have hs3 : W.heap.size ≤ W3.heap.size := hK3.size
    have HK3 := Lib.hid hK3
    have HP3 := Lib.hid hP3
    clear hK3 hP3
    have hcase : (er = 200 ∧ rd = none) ∨ (er = 0 ∧ (10000 : Int) < (m : Int) + 1) ∨ (er = 0 ∧ ¬ (10000 : Int) < (m : Int) + 1 ∧ eb = false) ∨ (er = 0 ∧ ¬ (10000 : Int) < (m : Int) + 1 ∧ eb = true) := by
      rw [her]
      cases rd with
      | none => exact .inl ⟨rfl, rfl⟩
      | some y =>
        by_cases h : (10000 : Int) < (m : Int) + 1
        · exact .inr (.inl ⟨rfl, h⟩)
        · cases eb
          · exact .inr (.inr (.inl ⟨rfl, h, rfl⟩))
          · exact .inr (.inr (.inr ⟨rfl, h, rfl⟩))
    have HRD := Lib.hid hrd
    have HEB := Lib.hid heb
    have HSA := Lib.hid hsa
    have HER := Lib.hid her
    clear hrd heb hsa her
    have HP4 := Lib.hid (HP3.out.below (bl_new (Below.refl _ W3) (.cells #[.int .i64 k_, .int .i64 co, .int .i64 nn, .int .i64 p, .int .i64 sg, .int .u32 mk, .string nm] 24)))
    have HK4 := Lib.hid (HK3.out.below (bl_new (Below.refl _ W3) (.cells #[.int .i64 k_, .int .i64 co, .int .i64 nn, .int .i64 p, .int .i64 sg, .int .u32 mk, .string nm] 24)))
    have HX4 := Lib.hid (Blk.new W3 24 #[.int .i64 k_, .int .i64 co, .int .i64 nn, .int .i64 p, .int .i64 sg, .int .u32 mk, .string nm])
    rcases hcase with ⟨rfl, rfl⟩ | ⟨rfl, hm1⟩ | ⟨rfl, hm1, rfl⟩ | ⟨rfl, hm1, rfl⟩
    · gi_wp2
      refine ⟨trivial, ?_⟩
      generalize W3.alloc (.cells #[.int .i64 k_, .int .i64 co, .int .i64 nn, .int .i64 p, .int .i64 sg, .int .u32 mk, .string nm] 24) = W4 at *
      clear hl0 hlf hn0 hnf he0 hef hll hnl hel
      have hl0 := HP4.out.l.cell 0
      have hlf := HP4.out.l.frozen 0
      have hn0 := HP4.out.n.cell 0
      have hnf := HP4.out.n.frozen 0
      have he0 : W4.cell? ⟨w.heap.size + 1 + 1, 0, none⟩ = _ := HP4.out.e.cell 0
      have hef : W4.frozen? ⟨w.heap.size + 1 + 1, 0, none⟩ = false := HP4.out.e.frozen 0
      simp only [List.getElem?_toArray, List.getElem?_cons_zero] at hl0 hn0 he0
      have HBX := Lib.hid (show lineS (toL x) = none ∨ 10000 ≤ pre.length from .inl (by unfold lineS; rw [← HRD.out]; split <;> rfl))
      have hKB := ((HK4.out.setLow (p := ⟨w.heap.size, 0, none⟩) (.inl rfl) (.slice none 0 0)).setLow (p := ⟨w.heap.size + 1, 0, none⟩) (.inr (.inl rfl)) (.int .i64 ((m : Int) + 1))).setLow (p := ⟨w.heap.size + 1 + 1, 0, none⟩) (.inr (.inr rfl)) (.int .i64 200)
      have hKB := Lib.hid (hKB.below (Below.refl _ _).drew)
      have HXX := Lib.hid (show PX w (pre ++ [x]).length (((W4.setCell ⟨w.heap.size, 0, none⟩ (.slice none 0 0)).setCell ⟨w.heap.size + 1, 0, none⟩ (.int .i64 ((m : Int) + 1))).setCell ⟨w.heap.size + 1 + 1, 0, none⟩ (.int .i64 200)).drew from by
        refine ⟨((box_set HP4.out.l _).far (by simp) _).far (by simp; omega) _, ?_, box_set ((show Blk W4 (w.heap.size + 1 + 1) _ _ from HP4.out.e).far (p := ⟨w.heap.size, 0, none⟩) (by simp; omega) (.slice none 0 0) |>.far (p := ⟨w.heap.size + 1, 0, none⟩) (by simp) (.int .i64 ((m : Int) + 1))) (.int .i64 200), hKB.out.bel (by omega) HI.out.b⟩
        have h := (box_set (HP4.out.n.far (p := ⟨w.heap.size, 0, none⟩) (by simp) (.slice none 0 0)) (.int .i64 ((m : Int) + 1))).far (p := ⟨w.heap.size + 1 + 1, 0, none⟩) (by simp) (.int .i64 200)
        rw [HHM.out] at h ⊢
        rw [List.length_append]
        exact h)
      gi_wp2
      gi_region
      all_goals
        generalize (((W4.setCell ⟨w.heap.size, 0, none⟩ (.slice none 0 0)).setCell ⟨w.heap.size + 1, 0, none⟩ (.int .i64 ((m : Int) + 1))).setCell ⟨w.heap.size + 1 + 1, 0, none⟩ (.int .i64 200)).drew = W9 at *
        gi_wp2
        exact ⟨hKB.out.from_ HI.out.l HI.out.n HI.out.e, hKB.out.kp (by omega) hC2, fun _ => ⟨rfl, ⟨pre, x, acc, rfl, HGOOD.out, HBX.out⟩, HXX.out⟩⟩
    · gi_wp2
      refine ⟨trivial, ?_⟩
      generalize W3.alloc (.cells #[.int .i64 k_, .int .i64 co, .int .i64 nn, .int .i64 p, .int .i64 sg, .int .u32 mk, .string nm] 24) = W4 at *
      clear hl0 hlf hn0 hnf he0 hef hll hnl hel
      have hl0 := HP4.out.l.cell 0
      have hlf := HP4.out.l.frozen 0
      have hn0 := HP4.out.n.cell 0
      have hnf := HP4.out.n.frozen 0
      have he0 : W4.cell? ⟨w.heap.size + 1 + 1, 0, none⟩ = _ := HP4.out.e.cell 0
      have hef : W4.frozen? ⟨w.heap.size + 1 + 1, 0, none⟩ = false := HP4.out.e.frozen 0
      simp only [List.getElem?_toArray, List.getElem?_cons_zero] at hl0 hn0 he0
      have HBX := Lib.hid (show lineS (toL x) = none ∨ 10000 ≤ pre.length from .inr (by have := HHM.out; omega))
      have hKB := ((HK4.out.setLow (p := ⟨w.heap.size, 0, none⟩) (.inl rfl) (.slice none 0 0)).setLow (p := ⟨w.heap.size + 1, 0, none⟩) (.inr (.inl rfl)) (.int .i64 ((m : Int) + 1))).setLow (p := ⟨w.heap.size + 1 + 1, 0, none⟩) (.inr (.inr rfl)) (.int .i64 200)
      have hKB := Lib.hid (hKB.below (Below.refl _ _).drew)
      have HXX := Lib.hid (show PX w (pre ++ [x]).length (((W4.setCell ⟨w.heap.size, 0, none⟩ (.slice none 0 0)).setCell ⟨w.heap.size + 1, 0, none⟩ (.int .i64 ((m : Int) + 1))).setCell ⟨w.heap.size + 1 + 1, 0, none⟩ (.int .i64 200)).drew from by
        refine ⟨((box_set HP4.out.l _).far (by simp) _).far (by simp; omega) _, ?_, box_set ((show Blk W4 (w.heap.size + 1 + 1) _ _ from HP4.out.e).far (p := ⟨w.heap.size, 0, none⟩) (by simp; omega) (.slice none 0 0) |>.far (p := ⟨w.heap.size + 1, 0, none⟩) (by simp) (.int .i64 ((m : Int) + 1))) (.int .i64 200), hKB.out.bel (by omega) HI.out.b⟩
        have h := (box_set (HP4.out.n.far (p := ⟨w.heap.size, 0, none⟩) (by simp) (.slice none 0 0)) (.int .i64 ((m : Int) + 1))).far (p := ⟨w.heap.size + 1 + 1, 0, none⟩) (by simp) (.int .i64 200)
        rw [HHM.out] at h ⊢
        rw [List.length_append]
        exact h)
      gi_wp2
      gi_region
      all_goals
        generalize (((W4.setCell ⟨w.heap.size, 0, none⟩ (.slice none 0 0)).setCell ⟨w.heap.size + 1, 0, none⟩ (.int .i64 ((m : Int) + 1))).setCell ⟨w.heap.size + 1 + 1, 0, none⟩ (.int .i64 200)).drew = W9 at *
        gi_wp2
        exact ⟨hKB.out.from_ HI.out.l HI.out.n HI.out.e, hKB.out.kp (by omega) hC2, fun _ => ⟨rfl, ⟨pre, x, acc, rfl, HGOOD.out, HBX.out⟩, HXX.out⟩⟩
    · gi_wp2
      refine ⟨trivial, fun _ => by omega, (HE.out _).mono ?_⟩
      rintro e _ ⟨rfl, rfl⟩
      generalize W3.alloc (.cells #[.int .i64 k_, .int .i64 co, .int .i64 nn, .int .i64 p, .int .i64 sg, .int .u32 mk, .string nm] 24) = W4 at *
      clear hl0 hlf hn0 hnf he0 hef hll hnl hel
      have hl0 := HP4.out.l.cell 0
      have hlf := HP4.out.l.frozen 0
      have hn0 := HP4.out.n.cell 0
      have hnf := HP4.out.n.frozen 0
      have he0 : W4.cell? ⟨w.heap.size + 1 + 1, 0, none⟩ = _ := HP4.out.e.cell 0
      have hef : W4.frozen? ⟨w.heap.size + 1 + 1, 0, none⟩ = false := HP4.out.e.frozen 0
      simp only [List.getElem?_toArray, List.getElem?_cons_zero] at hl0 hn0 he0
      have HBX := Lib.hid (show lineS (toL x) = none ∨ 10000 ≤ pre.length from .inl (by unfold lineS; rw [← HEB.out]; rfl))
      have hKB := ((HK4.out.setLow (p := ⟨w.heap.size, 0, none⟩) (.inl rfl) (.slice none 0 0)).setLow (p := ⟨w.heap.size + 1, 0, none⟩) (.inr (.inl rfl)) (.int .i64 ((m : Int) + 1))).setLow (p := ⟨w.heap.size + 1 + 1, 0, none⟩) (.inr (.inr rfl)) (.int .i64 200)
      have hKB := Lib.hid (hKB.below (Below.refl _ _).drew)
      have HXX := Lib.hid (show PX w (pre ++ [x]).length (((W4.setCell ⟨w.heap.size, 0, none⟩ (.slice none 0 0)).setCell ⟨w.heap.size + 1, 0, none⟩ (.int .i64 ((m : Int) + 1))).setCell ⟨w.heap.size + 1 + 1, 0, none⟩ (.int .i64 200)).drew from by
        refine ⟨((box_set HP4.out.l _).far (by simp) _).far (by simp; omega) _, ?_, box_set ((show Blk W4 (w.heap.size + 1 + 1) _ _ from HP4.out.e).far (p := ⟨w.heap.size, 0, none⟩) (by simp; omega) (.slice none 0 0) |>.far (p := ⟨w.heap.size + 1, 0, none⟩) (by simp) (.int .i64 ((m : Int) + 1))) (.int .i64 200), hKB.out.bel (by omega) HI.out.b⟩
        have h := (box_set (HP4.out.n.far (p := ⟨w.heap.size, 0, none⟩) (by simp) (.slice none 0 0)) (.int .i64 ((m : Int) + 1))).far (p := ⟨w.heap.size + 1 + 1, 0, none⟩) (by simp) (.int .i64 200)
        rw [HHM.out] at h ⊢
        rw [List.length_append]
        exact h)
      gi_wp2
      gi_region
      all_goals
        generalize (((W4.setCell ⟨w.heap.size, 0, none⟩ (.slice none 0 0)).setCell ⟨w.heap.size + 1, 0, none⟩ (.int .i64 ((m : Int) + 1))).setCell ⟨w.heap.size + 1 + 1, 0, none⟩ (.int .i64 200)).drew = W9 at *
        gi_wp2
        exact ⟨hKB.out.from_ HI.out.l HI.out.n HI.out.e, hKB.out.kp (by omega) hC2, fun _ => ⟨rfl, ⟨pre, x, acc, rfl, HGOOD.out, HBX.out⟩, HXX.out⟩⟩
    · gi_wp2
      refine ⟨trivial, fun _ => by omega, (HE.out _).mono ?_⟩
      rintro e _ ⟨rfl, rfl⟩
      generalize W3.alloc (.cells #[.int .i64 k_, .int .i64 co, .int .i64 nn, .int .i64 p, .int .i64 sg, .int .u32 mk, .string nm] 24) = W4 at *
      clear hl0 hlf hn0 hnf he0 hef hll hnl hel
      have hl0 := HP4.out.l.cell 0
      have hlf := HP4.out.l.frozen 0
      have hn0 := HP4.out.n.cell 0
      have hnf := HP4.out.n.frozen 0
      have he0 : W4.cell? ⟨w.heap.size + 1 + 1, 0, none⟩ = _ := HP4.out.e.cell 0
      have hef : W4.frozen? ⟨w.heap.size + 1 + 1, 0, none⟩ = false := HP4.out.e.frozen 0
      simp only [List.getElem?_toArray, List.getElem?_cons_zero] at hl0 hn0 he0
      obtain ⟨hx0, hx1, hx2, hx3, hx4, hx5, hx6⟩ := ocells HX4.out
      have hal : acc.length ≤ 10000 := by rw [goodP_len HGOOD.out, ← HHM.out]; exact hm0
      have hs4 := HK4.out.size
      have hrow := own_row HI.out.own
      gi_wp2_with (gi_at_builtin; refine wpListIn_append_own _ rfl _ _ 37 rfl C 24 i0 _ 7 64 Tryd.underlying37 hi hz0 hz1 hz2 rfl (by decide) _ _ _ rfl (HP4.out.own.alloc _) ⟨W4.heap.size, 0, none⟩ 1 1 [.int .i64 k_, .int .i64 co, .int .i64 nn, .int .i64 p, .int .i64 sg, .int .u32 mk, .string nm] rfl rfl (cells_new _ _ _) (by simp [Value.oneCell']) (by unfold maxLen; omega) (by omega) (by simp; omega) ?_; intro v' w1 hown' hgrow _; obtain ⟨g', cap', rfl⟩ := ownsRow_succ hown'; have hl5 := (HP4.out.l.alloc _).grown hgrow (fun e => by have := (hrow _ e.symm).1; omega); have hl0 := hl5.cell 0; have hlf := hl5.frozen 0)
      have hKB := ((HK4.out.below (bl_new (Below.refl _ W4) _)).grown hgrow hrow).setLow (p := ⟨w.heap.size, 0, none⟩) (.inl rfl) (.slice (some ⟨g', 0, none⟩) (acc.length + 1) cap')
      have hy : rd = some ⟨k_, co, nn, p, sg, mk, nm⟩ := by
        cases rd with
        | none => cases HER.out
        | some y =>
          have h := HSA.out
          obtain ⟨y0, y1, y2, y3, y4, y5, y6⟩ := y
          simp only [opA, O.cells, Array.mk.injEq, List.cons.injEq, Value.int.injEq, Value.string.injEq, and_true, true_and] at h
          obtain ⟨rfl, rfl, rfl, rfl, rfl, rfl, rfl⟩ := h
          rfl
      have hlx : lineS (toL x) = some ⟨k_, co, nn, p, sg, mk, nm⟩ := by
        unfold lineS
        rw [if_pos HEB.out.symm, ← HRD.out, hy]
      refine ⟨hKB.from_ HI.out.l HI.out.n HI.out.e, hKB.kp (by omega) hC2, fun _ => ⟨acc ++ [⟨k_, co, nn, p, sg, mk, nm⟩], .slice (some ⟨g', 0, none⟩) (acc.length + 1) cap', ⟨by have := HHM.out; simp only [List.length_append, List.length_cons, List.length_nil]; omega, ?_⟩, ?_⟩⟩
      · rw [List.map_append, List.map_append, HGOOD.out.2]
        show _ ++ [lineS (toL x)] = _
        rw [hlx]
        rfl
      · have hn5 := (HP4.out.n.alloc (.cells #[.int .i64 k_, .int .i64 co, .int .i64 nn, .int .i64 p, .int .i64 sg, .int .u32 mk, .string nm] 24)).grown hgrow (fun e => by have := (hrow _ e.symm).1; omega)
        have he5 := (HP4.out.e.alloc (.cells #[.int .i64 k_, .int .i64 co, .int .i64 nn, .int .i64 p, .int .i64 sg, .int .u32 mk, .string nm] 24)).grown hgrow (fun e => by have := (hrow _ e.symm).1; omega)
        refine ⟨box_set hl5 _, ?_, he5.far (by simp) _, own_set (ownO_snoc hown') (by simp; omega) _, hKB.bel (by omega) HI.out.b⟩
        have h := hn5.far (p := ⟨w.heap.size, 0, none⟩) (by simp) (.slice (some ⟨g', 0, none⟩) (acc.length + 1) cap')
        rw [HHM.out] at h
        simpa using h
  case done =>
    rintro D C ys W hD hC hys hi hK
    obtain ⟨acc, v, hgood, hp⟩ := hi (by omega)
    obtain ⟨E, ce, rfl, _, _⟩ := ownO_at hp.own
    have HP := Lib.hid hp
    have HGOOD := Lib.hid hgood
    have HK := Lib.hid hK
    have hl0 := hp.l.cell 0
    have hlf := hp.l.frozen 0
    have hll := hp.l.lt
    have hn0 := hp.n.cell 0
    have hnf := hp.n.frozen 0
    have hnl := hp.n.lt
    have he0 : W.cell? ⟨w.heap.size + 1 + 1, 0, none⟩ = _ := hp.e.cell 0
    have hef : W.frozen? ⟨w.heap.size + 1 + 1, 0, none⟩ = false := hp.e.frozen 0
    have hel : w.heap.size + 1 + 1 < W.heap.size := hp.e.lt
    simp only [List.getElem?_toArray, List.getElem?_cons_zero] at hl0 hn0 he0
    clear hp hgood hi hK
    gi_wp2
    have hK8 : (((W.setCell ⟨w.heap.size, 0, none⟩ (.slice E acc.length ce)).setCell ⟨w.heap.size + 1, 0, none⟩ (.int .i64 0)).setCell ⟨w.heap.size + 1 + 1, 0, none⟩ (.int .i64 0)).heap[D]? = some (.deferred (some [])) :=
      (Below.heap_setCell _ _ _ _ (by simp; omega)).trans ((Below.heap_setCell _ _ _ _ (by simp; omega)).trans ((Below.heap_setCell _ _ _ _ (by simp; omega)).trans HK.out))
    have hB8 := ((HP.out.b.setCell (p := ⟨w.heap.size, 0, none⟩) (Nat.le_refl _) (.slice E acc.length ce)).setCell (p := ⟨w.heap.size + 1, 0, none⟩) (by simp) (.int .i64 0)).setCell (p := ⟨w.heap.size + 1 + 1, 0, none⟩) (by simp; omega) (.int .i64 0)
    have hL8 := ((box_set HP.out.l (.slice E acc.length ce)).far (p := ⟨w.heap.size + 1, 0, none⟩) (by simp) (.int .i64 0)).far (p := ⟨w.heap.size + 1 + 1, 0, none⟩) (by simp; omega) (.int .i64 0)
    have hN8 := (box_set (HP.out.n.far (p := ⟨w.heap.size, 0, none⟩) (by simp) (.slice E acc.length ce)) (.int .i64 0)).far (p := ⟨w.heap.size + 1 + 1, 0, none⟩) (by simp) (.int .i64 0)
    have hE8 : Blk _ (w.heap.size + 1 + 1) _ _ := box_set ((show Blk W (w.heap.size + 1 + 1) _ _ from HP.out.e).far (p := ⟨w.heap.size, 0, none⟩) (by simp; omega) (.slice E acc.length ce) |>.far (p := ⟨w.heap.size + 1, 0, none⟩) (by simp) (.int .i64 0)) (.int .i64 0)
    have hO8 := own_set (own_set (own_set HP.out.own (p := ⟨w.heap.size, 0, none⟩) (by simp; omega) (.slice E acc.length ce)) (p := ⟨w.heap.size + 1, 0, none⟩) (by simp; omega) (.int .i64 0)) (p := ⟨w.heap.size + 1 + 1, 0, none⟩) (by simp; omega) (.int .i64 0)
    generalize (((W.setCell ⟨w.heap.size, 0, none⟩ (.slice E acc.length ce)).setCell ⟨w.heap.size + 1, 0, none⟩ (.int .i64 0)).setCell ⟨w.heap.size + 1 + 1, 0, none⟩ (.int .i64 0)) = W8 at *
    refine ⟨by simp, .inl ⟨_, _, rfl, run_takeDeferred hK8, ?_⟩⟩
    refine ⟨_, results_cell3 Tryd.results19 _ rfl ((World.putObj_heap_other (by omega)).trans hL8) Tryd.underlying37 rfl rfl ((World.putObj_heap_other (by omega)).trans hN8) Tryd.underlying3 rfl rfl ((World.putObj_heap_other (by omega)).trans hE8) Tryd.underlying25 rfl, .inl ⟨_, acc, rfl, ownsRow_putObj (own_lower hO8 (by omega)) _ hK8 rfl, ?_, ?_, hB8.trans (belowK_b (w := w) (Nat.le_refl _) W8 D _ _ (by omega) hK8 rfl rfl)⟩⟩
    · rw [← hys, List.map_map]
      exact HGOOD.out.2
    · rw [← hys, List.length_map]
      exact HGOOD.out.1
  case stop =>
    rintro D C cc pre W hD hC hpre hix hK
    obtain ⟨rfl, hbad, hp⟩ := hix (by omega)
    have HP := Lib.hid hp
    have HBAD := Lib.hid hbad
    have HK := Lib.hid hK
    clear hp hbad hix hK
    gi_wp2
    have hK8 := HK.out
    have hL8 := HP.out.l
    have hN8 := HP.out.n
    have hE8 : Blk W (w.heap.size + 1 + 1) _ _ := HP.out.e
    refine ⟨by simp, .inl ⟨_, _, rfl, run_takeDeferred hK8, ?_⟩⟩
    obtain ⟨ini, x, acc, rfl, hgood, hx⟩ := HBAD.out
    obtain ⟨r, hr⟩ := hpre
    rw [List.map_append, List.append_assoc] at hr
    have hil : (ini.map toL).length = ini.length := List.length_map ..
    refine ⟨_, results_cell3 Tryd.results19 _ rfl ((World.putObj_heap_other (by omega)).trans hL8) Tryd.underlying37 rfl rfl ((World.putObj_heap_other (by omega)).trans hN8) Tryd.underlying3 rfl rfl ((World.putObj_heap_other (by omega)).trans hE8) Tryd.underlying25 rfl, .inr ⟨ini.length, by rw [List.length_append]; rfl, hgood.1, ⟨acc, ?_⟩, ⟨toL x, ?_, hx⟩, HP.out.b.trans (belowK_b (w := w) (Nat.le_refl _) W D _ _ (by omega) hK8 rfl rfl)⟩⟩
    · rw [← hr, ← hil, List.take_left, List.map_map]
      exact hgood.2
    · rw [← hr, List.getElem?_append_right (by omega), hil, Nat.sub_self]
      rfl
end Go.Proofs.YtgefnicpkfcghaaDoor
