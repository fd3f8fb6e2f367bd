/-
  Calls and bytes that come in; bytes as strings. Condition: none.
-/
import Derived.Deep.Slices
import Derived.Deep.Fields
import Derived.Laws.BytesArg
import Derived.Laws.IdiomStrings
import Derived.Test.YtolejpbdbjkndaaClose
import Derived.Test.YtolejpbdbjkndaaSpN2
import Derived.Test.YtolejpbdbjkndaaSpQB
namespace Go.Proofs.Ytolejpbdbjkndaa
open Go.ChangeShapes Go.WideShapes Go.ChangeAt Go.RowKit Go.Deep
set_option linter.unusedVariables false
set_option linter.unusedSimpArgs false

/-- A call. -/
structure OpR where
  k : Int
  who : Int
  p : Int
  n : Int
  wr : Bool
  sh : Bool
  a : Nat
  wd : Nat
  A : Option Addr
  c : Nat
  bs : List Int
  x : E
def OpR.cells (o : OpR) : List Value := [.int .i64 o.k, .int .i64 o.who, .int .i64 o.p, .int .i64 o.n, .bool o.wr, .bool o.sh, .int .u32 o.a, .int .u32 o.wd, .slice o.A o.bs.length o.c, .int .i64 o.x.f, .bool o.x.w, .bool o.x.s, .bool o.x.c, .bool o.x.d]
/-- Bytes lie there. -/
structure BytesA (w : World) (A : Option Addr) (c : Nat) (bs : List Int) : Prop where
  low : ∀ x ∈ bs, 0 ≤ x ∧ x ≤ 255
  cap : bs.length ≤ c
  src : 0 < bs.length → ∃ g o : Nat, A = some ⟨g, o, none⟩ ∧ g < w.heap.size ∧ ∀ (j : Nat) (v : Value), (bs.map fun x => Value.int .u8 x)[j]? = some v → w.cell? ⟨g, o + j, none⟩ = some v
theorem BytesA.below {w w' : World} {A : Option Addr} {c : Nat} {bs : List Int} (h : BytesA w A c bs) (hb : Below w.heap.size w w') : BytesA w' A c bs :=
  ⟨h.low, h.cap, fun hp => by
    obtain ⟨g, o, e, hg, hc⟩ := h.src hp
    exact ⟨g, o, e, Nat.lt_of_lt_of_le hg hb.size, fun j v hv => (hb.cell hg).trans (hc j v hv)⟩⟩
def OpOk (w : World) (o : OpR) : Prop := BytesA w o.A o.c o.bs ∧ o.a < 4294967296
theorem OpOk.below {w w' : World} {o : OpR} (h : OpOk w o) (hb : Below w.heap.size w w') : OpOk w' o := ⟨h.1.below hb, h.2⟩

theorem cellsOf_int : Try.prog.cellsOf 3 = 1 := by kernel_rfl
theorem cellsOf_u32 : Try.prog.cellsOf 32 = 1 := by kernel_rfl
theorem cellsOf_u8 : Try.prog.cellsOf 5 = 1 := by kernel_rfl
theorem cellsOf_bool : Try.prog.cellsOf 4 = 1 := by kernel_rfl
theorem cellsOf_sl : Try.prog.cellsOf 33 = 1 := by kernel_rfl
theorem cellsOf_entry : Try.prog.cellsOf 35 = 5 := by kernel_rfl
theorem cellsOf_op : Try.prog.cellsOf 37 = 14 := by kernel_rfl
section
variable {H : Type} {enc : TypeId × Value → H} {w : World}
theorem trod_byte {base : Nat} {spare : Nat → Bool} {held : Bool} {fuel : Nat} {v : Value} {y : DataW H × List MemPlace} (h : DataW.trod enc Try.prog w base spare held fuel 5 [v] = some y) : ∃ x : Int, v = .int .u8 x ∧ 0 ≤ x ∧ x ≤ 255 := by
  obtain ⟨a, e, _, wf⟩ := DataW.trod_int Try.underlying5 h
  injection e with e _
  exact ⟨a, e, by simpa [Lit.wf, IntKind.min, IntKind.max, IntKind.signed, IntKind.bits] using wf⟩
/-- Bytes that came in. -/
theorem trod_bytes {fuel : Nat} {cs : List Value} {y : DataW H × List MemPlace} (h : DataW.trod enc Try.prog w 0 (fun _ => true) true fuel 33 cs = some y) :
    ∃ (A : Option Addr) (c : Nat) (bs : List Int), cs = [.slice A bs.length c] ∧ BytesA w A c bs ∧ bs.length ≤ maxLen := by
  rcases open_slice1 Try.underlying33 cellsOf_u8 h with ⟨rfl, _⟩ | ⟨a, len, cap, m, n, V, D, Pl, rfl, _, hl, hm, hmm, _, hV⟩
  · exact ⟨none, 0, [], rfl, ⟨(fun x hx => by cases hx), Nat.le_refl _, fun h => absurd h (by decide)⟩, Nat.zero_le _⟩
  · have hmc : m = cap := by simpa using hmm
    obtain ⟨f, hf⟩ := choose_lt (α := Int) (n := len) (p := fun i x => w.cell? (a.add i) = some (.int .u8 x) ∧ 0 ≤ x ∧ x ≤ 255) (fun i hi => by
      obtain ⟨h1, h2⟩ := hV i (by omega)
      obtain ⟨x, hx, hr⟩ := trod_byte h2
      exact ⟨x, by rw [h1, hx], hr⟩)
    refine ⟨some a, cap, (List.range len).map f, by simp, ⟨fun x hx => ?_, by simp; omega, fun hp => ?_⟩, by simp; omega⟩
    · obtain ⟨i, hi, rfl⟩ := List.mem_map.1 hx
      exact (hf i (List.mem_range.1 hi)).2
    · have hp : 0 < len := by simpa using hp
      have h0 := (hf 0 hp).1
      have e0 : a.add 0 = a := by simp [Addr.add]
      rw [e0] at h0
      have hsp := spot_of_cell h0
      obtain ⟨g, o, sp⟩ := a
      simp only at hsp
      subst hsp
      refine ⟨g, o, rfl, block_lt_of_cell h0, fun j v hv => ?_⟩
      rw [List.map_map, List.getElem?_map] at hv
      have hj : j < len := by
        rcases Nat.lt_or_ge j len with h | h
        · exact h
        · rw [List.getElem?_eq_none (by simpa using h)] at hv; cases hv
      rw [List.getElem?_range hj] at hv
      have hv : Value.int .u8 (f j) = v := by simpa using hv
      rw [← hv, ← add_eq]
      exact (hf j hj).1
set_option maxRecDepth 100000 in
theorem trod_entry {fuel : Nat} {cs : List Value} {y : DataW H × List MemPlace} (h : DataW.trod enc Try.prog w 0 (fun _ => true) true fuel 35 cs = some y) :
    ∃ x : E, cs = [.int .i64 x.f, .bool x.w, .bool x.s, .bool x.c, .bool x.d] := by
  obtain ⟨xs, n, rfl, hx, hlen, hxl, hf⟩ := DataW.trod_struct Try.underlying35 h
  rw [cellsOf_entry] at hlen
  match cs, hlen with
  | [c0, c1, c2, c3, c4], _ =>
    match xs, hxl with
    | [y0, y1, y2, y3, y4], _ =>
      have h0 := hf 0 _ rfl
      have h1 := hf 1 _ rfl
      have h2 := hf 2 _ rfl
      have h3 := hf 3 _ rfl
      have h4 := hf 4 _ rfl
      simp only [cellsOf_int, cellsOf_bool, List.drop_zero, List.drop_succ_cons, List.take_succ_cons, List.take_zero, List.getElem?_cons_zero, List.getElem?_cons_succ] at h0 h1 h2 h3 h4
      obtain ⟨f, e0, _, _⟩ := DataW.trod_int Try.underlying3 h0
      obtain ⟨b1, e1, _⟩ := DataW.trod_bool Try.underlying4 h1
      obtain ⟨b2, e2, _⟩ := DataW.trod_bool Try.underlying4 h2
      obtain ⟨b3, e3, _⟩ := DataW.trod_bool Try.underlying4 h3
      obtain ⟨b4, e4, _⟩ := DataW.trod_bool Try.underlying4 h4
      injection e0 with e0 _; injection e1 with e1 _; injection e2 with e2 _; injection e3 with e3 _; injection e4 with e4 _
      exact ⟨⟨f, b1, b2, b3, b4⟩, by rw [e0, e1, e2, e3, e4]⟩
set_option maxRecDepth 100000 in
set_option maxHeartbeats 1000000 in
theorem trod_op {fuel : Nat} {cs : List Value} {y : DataW H × List MemPlace} (h : DataW.trod enc Try.prog w 0 (fun _ => true) true fuel 37 cs = some y) : ∃ o : {o : OpR // OpOk w o}, cs = o.1.cells := by
  obtain ⟨xs, n, rfl, hx, hlen, hxl, hf⟩ := DataW.trod_struct Try.underlying37 h
  rw [cellsOf_op] at hlen
  match cs, hlen with
  | [c0, c1, c2, c3, c4, c5, c6, c7, c8, c9, c10, c11, c12, c13], _ =>
    match xs, hxl with
    | [y0, y1, y2, y3, y4, y5, y6, y7, y8, y9], _ =>
      have h0 := hf 0 _ rfl
      have h1 := hf 1 _ rfl
      have h2 := hf 2 _ rfl
      have h3 := hf 3 _ rfl
      have h4 := hf 4 _ rfl
      have h5 := hf 5 _ rfl
      have h6 := hf 6 _ rfl
      have h7 := hf 7 _ rfl
      have h8 := hf 8 _ rfl
      have h9 := hf 9 _ rfl
      simp only [cellsOf_int, cellsOf_u32, cellsOf_bool, cellsOf_sl, cellsOf_entry, List.drop_zero, List.drop_succ_cons, List.take_succ_cons, List.take_zero, List.getElem?_cons_zero, List.getElem?_cons_succ] at h0 h1 h2 h3 h4 h5 h6 h7 h8 h9
      obtain ⟨a0, e0, _, _⟩ := DataW.trod_int Try.underlying3 h0
      obtain ⟨a1, e1, _, _⟩ := DataW.trod_int Try.underlying3 h1
      obtain ⟨a2, e2, _, _⟩ := DataW.trod_int Try.underlying3 h2
      obtain ⟨a3, e3, _, _⟩ := DataW.trod_int Try.underlying3 h3
      obtain ⟨b4, e4, _⟩ := DataW.trod_bool Try.underlying4 h4
      obtain ⟨b5, e5, _⟩ := DataW.trod_bool Try.underlying4 h5
      obtain ⟨a6, e6, _, w6⟩ := DataW.trod_int Try.underlying32 h6
      obtain ⟨a7, e7, _, w7⟩ := DataW.trod_int Try.underlying32 h7
      obtain ⟨A8, k8, bs, e8, hb, _⟩ := trod_bytes h8
      obtain ⟨x9, e9⟩ := trod_entry h9
      injection e0 with e0 _; injection e1 with e1 _; injection e2 with e2 _; injection e3 with e3 _; injection e4 with e4 _; injection e5 with e5 _; injection e6 with e6 _; injection e7 with e7 _; injection e8 with e8 _
      injection e9 with g0 e9; injection e9 with g1 e9; injection e9 with g2 e9; injection e9 with g3 e9; injection e9 with g4 e9
      have r6 : 0 ≤ a6 ∧ a6 ≤ 4294967295 := by simpa [Lit.wf, IntKind.min, IntKind.max, IntKind.signed, IntKind.bits] using w6
      have r7 : 0 ≤ a7 ∧ a7 ≤ 4294967295 := by simpa [Lit.wf, IntKind.min, IntKind.max, IntKind.signed, IntKind.bits] using w7
      obtain ⟨n6, rfl⟩ := Int.eq_ofNat_of_zero_le r6.1
      obtain ⟨n7, rfl⟩ := Int.eq_ofNat_of_zero_le r7.1
      exact ⟨⟨⟨a0, a1, a2, a3, b4, b5, n6, n7, A8, k8, bs, x9⟩, hb, by show n6 < 4294967296; omega⟩, by rw [e0, e1, e2, e3, e4, e5, e6, e7, e8, g0, g1, g2, g3, g4]; rfl⟩
/-- Calls lie there. -/
def OpsA (w : World) (A : Option Addr) (l : List OpR) : Prop := RowsAt w A 14 (l.map OpR.cells) ∧ ∀ o ∈ l, OpOk w o
theorem OpsA.below {w w' : World} {A : Option Addr} {l : List OpR} (h : OpsA w A l) (hb : Below w.heap.size w w') : OpsA w' A l := ⟨h.1.below hb, fun o ho => (h.2 o ho).below hb⟩
set_option maxRecDepth 100000 in
theorem open_ops {v : Value} {d : DataW H} {p : List MemPlace} {r : Reach} {b0 : Nat} (hv : Value.okWide Try.prog w r b0 22 v) (h : DataW.Trod enc Try.prog w 0 (fun _ => true) true 22 v d p) :
    ∃ (A : Option Addr) (c : Nat) (l : List OpR), v = .slice A l.length c ∧ OpsA w A l ∧ l.length ≤ maxLen := by
  obtain ⟨A, c, l, rfl, hO, hl⟩ := open_rows (fun o : {o : OpR // OpOk w o} => o.1.cells) (by decide) (fun _ => rfl) Try.underlying22 cellsOf_op trod_op hv h
  refine ⟨A, c, l.map Subtype.val, by rw [List.length_map], ⟨?_, fun o ho => ?_⟩, by rw [List.length_map]; exact hl⟩
  · rw [List.map_map]
    exact hO
  · obtain ⟨y, _, rfl⟩ := List.mem_map.1 ho
    exact y.2
theorem open_bytes {v : Value} {d : DataW H} {p : List MemPlace} (h : DataW.Trod enc Try.prog w 0 (fun _ => true) true 33 v d p) (hv : ∃ a len cap, v = .slice a len cap) :
    ∃ (A : Option Addr) (c : Nat) (bs : List Int), v = .slice A bs.length c ∧ BytesA w A c bs ∧ bs.length ≤ maxLen := by
  obtain ⟨a, len, cap, rfl⟩ := hv
  obtain ⟨fuel, hf⟩ := h
  obtain ⟨A, c, bs, e, h1, h2⟩ := trod_bytes hf
  simp only [Value.cells, List.cons.injEq, and_true] at e
  exact ⟨A, c, bs, e, h1, h2⟩
end
/-- A row of bytes as a string. -/
theorem conv_row {w : World} {base : Nat} {v : Value} {bs : List Int} (h : w.ownsRow base 5 1 v bs.length (bs.map fun x => Value.int .u8 x)) : (convert 33 9 v).run Try.prog w = .ok (.string (strOfNums bs)) w := by
  cases hb : bs with
  | nil =>
    subst hb
    rcases h.2 with ⟨rfl, _⟩ | ⟨g, cap, cur, rfl, _, _, _, _, _, _⟩
    · show (convert 33 9 (.slice none 0 0)).run Try.prog w = .ok (.string ByteArray.empty) w
      rw [run_convert_bytes_string w _ _ 5 _ 0 0 Try.underlying33 Try.underlying5 Try.underlying9]
      simp [Conv.bytesToString]
    · show (convert 33 9 (.slice (some ⟨g, 0, none⟩) 0 cap)).run Try.prog w = .ok (.string ByteArray.empty) w
      rw [run_convert_bytes_string w _ _ 5 _ 0 cap Try.underlying33 Try.underlying5 Try.underlying9]
      rw [run_bytesToString w ⟨g, 0, none⟩ 0 cap [] (by rfl)]; rfl
  | cons x l =>
    obtain ⟨g, cap, cur, rfl, _, hg, hcur⟩ := row_open h (by rw [hb]; exact Nat.succ_pos _)
    rw [← hb]
    refine run_convert_bytes_arg w _ 5 Try.underlying33 Try.underlying5 g 0 _ cap bs rfl (fun i hi => ?_) _ Try.underlying9
    rw [Nat.zero_add, hg.cell]
    refine hcur i _ ?_
    rw [List.getElem?_map, List.getD_eq_getElem?_getD, List.getElem?_eq_getElem hi]; rfl
theorem str_inj {l l' : List Int} (h : ∀ x ∈ l, 0 ≤ x ∧ x ≤ 255) (h' : ∀ x ∈ l', 0 ≤ x ∧ x ≤ 255) (e : strOfNums l = strOfNums l') : l = l' := by
  have hd : (l.map fun n => UInt8.ofNat n.toNat) = l'.map fun n => UInt8.ofNat n.toNat := by
    rw [← strOfNums_data, ← strOfNums_data, e]
  clear e
  induction l generalizing l' with
  | nil =>
    cases l' with
    | nil => rfl
    | cons y l' => cases hd
  | cons x l ih =>
    cases l' with
    | nil => cases hd
    | cons y l' =>
      simp only [List.map_cons, List.cons.injEq] at hd
      have h1 := h x (List.mem_cons_self ..)
      have h2 := h' y (List.mem_cons_self ..)
      have h3 := congrArg UInt8.toNat hd.1
      rw [UInt8.toNat_ofNat', UInt8.toNat_ofNat'] at h3
      rw [ih (fun z hz => h z (List.mem_cons_of_mem _ hz)) (fun z hz => h' z (List.mem_cons_of_mem _ hz)) hd.2]
      rw [show x = y by omega]
end Go.Proofs.Ytolejpbdbjkndaa
