/-
  user.Text: the text at an address. Condition: the space and the frames lie in blocks of their own; each page's frame is used, and of that page alone within the space.
-/
import Derived.Deep.Onto
import Derived.Laws.BytesArg
import Derived.Laws.IdiomStrings
import Derived.Test.YtlecfdchmcghlaaUs1
namespace Go.Proofs.Ytlecfdchmcghlaa
open Go.RowKit Go.Shelf
set_option linter.unusedVariables false
set_option linter.unusedSimpArgs false
attribute [local go_sem] Oper.semAt_some

/-- The text, and its code. -/
def textG (it : Nat → Int × Bool) : Nat → Nat → List Int → List Int × Int
  | 0, _, _ => ([], 22)
  | n + 1, k, acc => if (it k).2 = false then ([], 14) else if (it k).1 = 0 then (acc, 0) else textG it n (k + 1) (acc ++ [(it k).1])
def textP (F : Fs) (m : M) (a most : Nat) : List Int × Int := textG (itF F m a) most 0 []
def goodB (x : Int × Bool) : Prop := x.2 = true ∧ x.1 ≠ 0
theorem textG_skip (it : Nat → Int × Bool) : ∀ (j n k : Nat) (acc : List Int), (∀ i, i < j → goodB (it (k + i))) → textG it (j + n) k acc = textG it n (k + j) (acc ++ (List.range j).map fun i => (it (k + i)).1)
  | 0, n, k, acc, _ => by simp
  | j + 1, n, k, acc, h => by
    obtain ⟨h1, h2⟩ := h 0 (by omega)
    rw [Nat.add_zero] at h1 h2
    rw [show j + 1 + n = (j + n) + 1 by omega, textG, if_neg (by rw [h1]; decide), if_neg h2, textG_skip it j n (k + 1) _ (fun i hi => by
      have := h (i + 1) (by omega)
      rwa [show k + (i + 1) = k + 1 + i by omega] at this)]
    rw [show k + 1 + j = k + (j + 1) by omega, List.range_succ_eq_map, List.map_cons, List.map_map, List.append_assoc, Nat.add_zero]
    congr 2
    simp only [List.singleton_append, List.cons.injEq, Nat.add_zero, true_and]
    refine List.map_congr_left fun i _ => ?_
    show (it (k + 1 + i)).1 = (it (k + (i + 1))).1
    rw [show k + 1 + i = k + (i + 1) by omega]
def fstL (l : List (Int × Bool)) : List Int := l.map fun x => x.1
theorem fstL_len (l : List (Int × Bool)) : (fstL l).length = l.length := List.length_map ..
theorem fstL_app (l : List (Int × Bool)) (c : Int) (b : Bool) : fstL (l ++ [(c, b)]) = fstL l ++ [c] := by unfold fstL; rw [List.map_append]; rfl
theorem itL_take (F : Fs) (m : M) (a : Nat) {k n : Nat} (h : k ≤ n) : (itL F m a n).take k = itL F m a k := by
  obtain ⟨t, ht⟩ := itL_prefix F m a n k h
  rw [← ht, List.take_left' (itL_len F m a k)]
theorem itL_end {F : Fs} {m : M} {a n : Nat} {pp : List (Int × Bool)} {x : Int × Bool} (h : pp ++ [x] <+: itL F m a n) : ∃ k, k < n ∧ pp = itL F m a k ∧ x = itF F m a k := by
  have hl := h.length_le
  rw [List.length_append, List.length_singleton, itL_len] at hl
  have h1 := List.prefix_iff_eq_take.1 h
  rw [List.length_append, List.length_singleton, itL_take F m a hl, itL_succ] at h1
  obtain ⟨h2, h3⟩ := List.append_inj' h1 rfl
  exact ⟨pp.length, by omega, h2, by injection h3⟩
theorem itL_fst (F : Fs) (m : M) (a k : Nat) : fstL (itL F m a k) = (List.range k).map fun i => (itF F m a i).1 := by
  unfold fstL itL
  rw [List.map_map]; rfl
theorem textP_at (F : Fs) (m : M) (a most k : Nat) (hk : k ≤ most) (h : ∀ x ∈ itL F m a k, goodB x) : textP F m a most = textG (itF F m a) (most - k) k (fstL (itL F m a k)) := by
  unfold textP
  have := textG_skip (itF F m a) k (most - k) 0 [] (fun i hi => by
    rw [Nat.zero_add]
    refine h _ ?_
    unfold itL
    exact List.mem_map.2 ⟨i, List.mem_range.2 hi, rfl⟩)
  rw [show k + (most - k) = most by omega, Nat.zero_add, List.nil_append] at this
  rw [this, itL_fst]
  simp
/-- The law for an iterator's caller, where each round's variables are temporaries, rows grow that are made within the loop, and a round may leave it. -/
theorem wpIn_rangeFunc_PC {F : Fence} {n : Nat} {P : Program} {w : World} {α : Type} {g : Operand} {ps : Array Tmp} {assign body : Code} {Q : Exit → Act → World → Prop} {a : Act}
    (hro : F.round = none) (h1 : 1 ≤ n) {gf : Nat} {lb : Array Value} (hg : a.eval g = .func (.func gf) #[] lb) (hFg : F.fn gf) (eg : ∀ args w, (callFunc gf args).run P w = .ok (.enter gf args) w)
    {encs : α → Array Value} {Rr : List α → α → Prop} {Kp : World → World → Prop} {S Sp : List α → Prop} {N : Nat}
    (hseq : ∀ W, Below w.heap.size w W → W.heap.size = w.heap.size + 2 → SeqP F (n - 1) P gf lb encs (fun _ _ => True) Rr Kp S Sp N (w.heap.size + 1) W)
    (hKt : ∀ {A B C : World}, Kp A B → Kp B C → Kp A C) (hKb : ∀ (W : World) (r : Loop) (o' : Obj), W.heap[w.heap.size + 1]? = some (.loop r) → Kp W (W.putObj (w.heap.size + 1) o')) (hps : ∀ x, (encs x).size = ps.size)
    (B : Nat) (hB : w.heap.size = B) (I : Nat → List α → World → Prop) (Ix : Nat → Code → List α → World → Prop) (hI : ∀ C, PrivP B C (I C)) (hIx : ∀ C c, PrivP B C (Ix C c)) (h0 : ∀ C, I C [] w)
    (fs : α → List (Nat × Value))
    (hassign : ∀ (l C : Nat) (pre : List α) (x : α) (W : World) (K : Act → World → Prop), C ≤ W.heap.size → I C pre W → Rr pre x → (∀ W', KeepsFrom B W W' → Kp W W' → I C pre W' → K ⟨setL a.tmps (fs x), []⟩ W') →
      assign.wpIn (F.inRound l) (n - 1 - 1) P (Exit.then K (fun _ _ _ => False)) { tmps := (ps.zip (encs x)).foldl (fun t (p, v) => t.setIfInBounds p v) a.tmps, defers := [] } W)
    (hbody : ∀ (l C : Nat) (pre : List α) (x : α) (W : World), B ≤ l → (∃ r, W.heap[l]? = some (.loop r)) → B + 2 ≤ C → C ≤ W.heap.size → I C pre W → Rr pre x → pre.length < N → body.wpIn (F.inRound l) (n - 1 - 1) P (leftP B Kp (I C) (Ix C) (pre ++ [x]) W) ⟨setL a.tmps (fs x), []⟩ W)
    (hdone : ∀ (D C : Nat) (xs : List α) (W : World), B ≤ D → B + 2 ≤ C → S xs → I C xs W → W.heap[D]? = some (.deferred (some [])) → Q .normal { a with defers := { target := .collected D, args := #[] } :: a.defers } W)
    (hstop : ∀ (D C : Nat) (c : Code) (pre : List α) (W : World), B ≤ D → B + 2 ≤ C → Sp pre → Ix C c pre W → W.heap[D]? = some (.deferred (some [])) → c.wpIn F n P Q { a with defers := { target := .collected D, args := #[] } :: a.defers } W) :
    (Code.rangeFunc g ps assign body).wpIn F n P Q a w := by
  subst hB
  exact wpIn_rangeFunc_P hro h1 hg hFg eg hseq hKt hKb hps (fun _ _ _ _ _ _ _ _ => trivial) I Ix hI hIx h0
    (fun x a' _ => a' = ⟨setL a.tmps (fs x), []⟩) (fun x a' _ X Y row hs hg hr => hs)
    (fun l C pre x W K _ hC hi _ hr hK => hassign l C pre x W K hC hi hr (fun W' k1 k2 k3 => hK _ _ k1 k2 k3 trivial rfl))
    (fun l C pre x a' W hl hr hC1 hC2 hi _ hR hax hlen => by subst hax; exact hbody l C pre x W hl hr hC1 hC2 hi hR hlen)
    (fun D C xs W hD hC hS hi hk => hdone D C xs W hD hC hS hi hk) (fun D C c pre W hD hC hS hi hk => hstop D C c pre W hD hC hS hi hk)
/-- A row of bytes as a string. -/
theorem conv_rowU {w : World} {base : Nat} {v : Value} {bs : List Int} (h : w.ownsRow base 5 1 v bs.length (bs.map fun x => Value.int .u8 x)) : (convert 50 9 v).run Try.prog w = .ok (.string (strOfNums bs)) w := by
  cases hb : bs with
  | nil =>
    subst hb
    rcases h.2 with ⟨rfl, _⟩ | ⟨g, cap, cur, rfl, _, _, _, _, _, _⟩
    · show (convert 50 9 (.slice none 0 0)).run Try.prog w = .ok (.string ByteArray.empty) w
      rw [run_convert_bytes_string w _ _ 5 _ 0 0 Try.underlying50 Try.underlying5 Try.underlying9]
      simp [Conv.bytesToString]
    · show (convert 50 9 (.slice (some ⟨g, 0, none⟩) 0 cap)).run Try.prog w = .ok (.string ByteArray.empty) w
      rw [run_convert_bytes_string w _ _ 5 _ 0 cap Try.underlying50 Try.underlying5 Try.underlying9]
      rw [run_bytesToString w ⟨g, 0, none⟩ 0 cap [] (by rfl)]; rfl
  | cons x l =>
    obtain ⟨g, cap, cur, rfl, _, hg, hcur⟩ := row_open h (by rw [hb]; exact Nat.succ_pos _)
    rw [← hb]
    refine run_convert_bytes_arg w _ 5 Try.underlying50 Try.underlying5 g 0 _ cap bs rfl (fun i hi => ?_) _ Try.underlying9
    rw [Nat.zero_add, hg.cell]
    refine hcur i _ ?_
    rw [List.getElem?_map, List.getD_eq_getElem?_getD, List.getElem?_eq_getElem hi]; rfl
/-- What lies while Text goes on. -/
structure TI (w : World) (e : Int) (C : Nat) (l : List Int) (W : World) : Prop where
  out : ∃ v, Blk W w.heap.size 50 #[v] ∧ W.ownsRow C 5 1 v l.length (l.map fun x => Value.int .u8 x)
  code : Blk W (w.heap.size + 1) 3 #[.int .i64 e]
  lo : Below w.heap.size w W
  sz : w.heap.size + 5 ≤ W.heap.size
theorem TI.priv {w : World} {C : Nat} {e : Int} {l : List Int} {W W' : World} {row : Option Nat} (hs : TI w e C l W) (hg : W.grownBy W' row) (hr : ∀ r, row = some r → w.heap.size + 5 ≤ r ∧ (r < C ∨ ∃ o : Obj, W.heap[r]? = some o ∧ o.isCells = false)) : TI w e C l W' := by
  obtain ⟨v, hv, hrow⟩ := hs.out
  refine ⟨⟨v, hv.grown hg (fun e => by have := (hr _ e.symm).1; omega), hrow.kept hg ?_⟩, hs.code.grown hg (fun e => by have := (hr _ e.symm).1; omega), hs.lo.grown hg (by have := hs.lo.size; omega) (fun k e => by have := (hr k e).1; omega), Nat.le_trans hs.sz hg.size⟩
  cases hb : v.ownBlock with
  | none => exact .inl rfl
  | some r =>
    refine .inr (fun e => ?_)
    obtain ⟨hr1, cur, hr2⟩ := row_block hrow hb
    rcases (hr r e.symm).2 with h3 | ⟨o, ho, hc⟩
    · omega
    · rw [show W.heap[r]? = _ from hr2] at ho
      cases ho
      cases hc
theorem TI.put {w : World} {C : Nat} {e e' : Int} {l : List Int} {W : World} (h : TI w e C l W) (hC : w.heap.size + 5 ≤ C) : TI w e' C l (W.setCell ⟨w.heap.size + 1, 0, none⟩ (.int .i64 e')) ∧ KeepsFrom (w.heap.size + 5) W (W.setCell ⟨w.heap.size + 1, 0, none⟩ (.int .i64 e')) ∧ KpF w.heap.size (w.heap.size + 2) W (W.setCell ⟨w.heap.size + 1, 0, none⟩ (.int .i64 e')) := by
  obtain ⟨v, hv, hrow⟩ := h.out
  refine ⟨⟨⟨v, hv.far (by show w.heap.size ≠ w.heap.size + 1; omega) _, hrow.kept (grownBy_setCell' W (w.heap.size + 1) _) ?_⟩, h.code.set_ 0 _, h.lo.setCell (by show w.heap.size ≤ w.heap.size + 1; omega) _, by simpa [World.setCell] using h.sz⟩, ⟨by simp [World.setCell], fun k o hk h0 ho => (Below.heap_setCell _ _ _ k (by show k ≠ w.heap.size + 1; omega)).trans h0⟩, (Below.refl _ _).setCell (by show w.heap.size ≤ w.heap.size + 1; omega) _, by have := h.lo.size; omega, fun k t cs h1 h2 hb => hb.far (by show k ≠ w.heap.size + 1; omega) _⟩
  cases hb : v.ownBlock with
  | none => exact .inl rfl
  | some r =>
    refine .inr (fun e => ?_)
    obtain ⟨hr1, _⟩ := row_block hrow hb
    injection e with e
    omega
theorem TI.more {w V W w9 : World} {C : Nat} {l : List Int} {c : Int} {vo v' : Value} (h : TI w 22 C l V) (hvo : Blk V w.heap.size 50 #[vo]) (hro : V.ownsRow C 5 1 vo l.length (l.map fun x => Value.int .u8 x)) (hg : V.grownBy w9 vo.ownBlock) (hC : C ≤ V.heap.size) (hN : w.heap.size + 5 ≤ C) (hW : Below W.heap.size W V) (hWs : w.heap.size ≤ W.heap.size)
    (hn : w9.ownsRow C 5 1 v' (l.length + 1) ((l.map fun x => Value.int .u8 x) ++ [Value.int .u8 c])) :
    (KeepsFrom (w.heap.size + 5) W (w9.setCell ⟨w.heap.size, 0, none⟩ v') ∧ KpF w.heap.size (w.heap.size + 2) W (w9.setCell ⟨w.heap.size, 0, none⟩ v')) ∧ TI w 22 C (l ++ [c]) (w9.setCell ⟨w.heap.size, 0, none⟩ v') ∧ Blk w9 w.heap.size 50 #[vo] := by
  have hne : ∀ (k : Nat) (t : TypeId) (cs : Array Value), Blk V k t cs → t ≠ 5 → some k ≠ vo.ownBlock := fun k t cs hk ht e => by
    obtain ⟨_, cur, hr2⟩ := row_block hro e.symm
    exact ht (by unfold Blk at hk hr2; rw [hk] at hr2; cases hr2; rfl)
  have hnl : ∀ k, k < C → some k ≠ vo.ownBlock := fun k hk e => by
    obtain ⟨h1, _⟩ := row_block hro e.symm
    omega
  have hnc : ∀ (k : Nat) (o : Obj), V.heap[k]? = some o → o.isCells = false → some k ≠ vo.ownBlock := fun k o hk ho e => by
    obtain ⟨_, cur, hr2⟩ := row_block hro e.symm
    unfold Blk at hr2
    rw [hk] at hr2
    cases hr2
    cases ho
  have hsz := hg.size
  have hvN := hvo.grown hg (hne _ _ _ hvo (by decide))
  have hWV := hW.size
  have hlo : Below w.heap.size W (w9.setCell ⟨w.heap.size, 0, none⟩ v') := ((hW.mono hWs).grown hg (by omega) (fun k e => by obtain ⟨h1, _⟩ := row_block hro e; omega)).setCell (by show w.heap.size ≤ w.heap.size; omega) _
  have hl2 : Below w.heap.size w (w9.setCell ⟨w.heap.size, 0, none⟩ v') := (h.lo.grown hg (by omega) (fun k e => by obtain ⟨h1, _⟩ := row_block hro e; omega)).setCell (by show w.heap.size ≤ w.heap.size; omega) _
  refine ⟨⟨⟨?_, fun k o hk h0 ho => ?_⟩, hlo, hWs, fun k t cs h1 h2 h0 => ?_⟩, ⟨⟨v', hvN.set_ 0 _, ?_⟩, ?_, hl2, ?_⟩, hvN⟩
  · simp [World.setCell]; omega
  · have hkW := (Array.getElem?_eq_some_iff.1 h0).1
    have hkV := (hW.block k hkW).trans h0
    exact (Below.heap_setCell _ _ _ k (by show k ≠ w.heap.size; omega)).trans ((hg.block k (Array.getElem?_eq_some_iff.1 hkV).1 (hnc k o hkV ho)).trans hkV)
  · exact ((h0.below hW h0.lt).grown hg (hnl k (by omega))).far (by show k ≠ w.heap.size; omega) _
  · rw [List.length_append, List.map_append]
    refine hn.kept (grownBy_setCell' w9 w.heap.size v') ?_
    cases hb : v'.ownBlock with
    | none => exact .inl rfl
    | some r =>
      refine .inr (fun e => ?_)
      obtain ⟨hr1, _⟩ := row_block hn hb
      injection e with e
      omega
  · exact (h.code.grown hg (hnl _ (by omega))).far (by show w.heap.size + 1 ≠ w.heap.size; omega) _
  · simp [World.setCell]; have := h.sz; omega
section
variable {w : World} {fb lb cap : Nat} {F : Fs} {sb bt : Nat} {q : Nat → Option Nat} {m : M}
set_option maxRecDepth 100000 in
theorem text_bad_in (n : Nat) (hn : 1 ≤ n) (a most : Int) (hb : most < 1 ∨ 4096 < most) (p : Value) :
    CallsIn Fence.wide n Try.prog 9 #[p, .int .u32 a, .int .i64 most] w fun e w' => e = .returned (.tuple #[.string ⟨#[]⟩, .int .i64 22]) ∧ w = w' := by
  by_cases h1 : most < 1
  · clear hb
    refine callsIn_of_wp Try.func9 rfl trivial ?_ rfl
    simp only [Try.ntmps9, List.size_toArray, List.length_cons, List.length_nil, Nat.reduceAdd, Nat.reduceSub, Array.replicate_succ, Array.replicate_zero, List.push_toArray, List.append_toArray, List.nil_append, List.cons_append]
    gi_wp2_with (fail)
    refine wpIn_scope_straight ?_
    gi_wp2
    rw [Exit.noGoto_ret]
    go_ret2
    exact ⟨rfl, rfl⟩
  · have h2 : 4096 < most := by omega
    clear hb
    refine callsIn_of_wp Try.func9 rfl trivial ?_ rfl
    simp only [Try.ntmps9, List.size_toArray, List.length_cons, List.length_nil, Nat.reduceAdd, Nat.reduceSub, Array.replicate_succ, Array.replicate_zero, List.push_toArray, List.append_toArray, List.nil_append, List.cons_append]
    gi_wp2_with (fail)
    refine wpIn_scope_straight ?_
    gi_wp2
    rw [Exit.noGoto_ret]
    go_ret2
    exact ⟨rfl, rfl⟩
theorem text_bad (a most : Int) (hb : most < 1 ∨ 4096 < most) (p : Value) :
    Calls Try.prog 9 #[p, .int .u32 a, .int .i64 most] w fun e w' => e = .returned (.tuple #[.string ⟨#[]⟩, .int .i64 22]) ∧ w = w' := callsIn_wide.1 (text_bad_in 1 (by decide) a most hb p)
set_option maxRecDepth 100000 in
set_option maxHeartbeats 4000000 in
theorem text_in (n : Nat) (hn : 16 ≤ n) (h : FS w fb lb cap F sb bt q m) (hok : SpOk F m) (a most : Nat) (ha : a < 4294967296) (hm : 1 ≤ most ∧ most ≤ 4096) :
    CallsIn Fence.wide n Try.prog 9 #[.pointer (some ⟨sb, 0, none⟩), .int .u32 a, .int .i64 most] w fun e w' => e = .returned (.tuple #[.string (strOfNums (textP F m a most).1), .int .i64 (textP F m a most).2]) ∧ Below w.heap.size w w' := by
  have h1 : 1 ≤ n := by omega
  obtain ⟨i0, hi, hz0, hz1, hz2⟩ := info_parts infoU8
  have HH := Lib.hid h
  have HOK := Lib.hid hok
  have hk0 : ¬ (most : Int) < 1 := by omega
  have hk1 : ¬ (4096 : Int) < (most : Int) := by omega
  clear h hok
  refine callsIn_of_wp_marks Try.func9 rfl trivial ?_ rfl
  simp only [Try.ntmps9, List.size_toArray, List.length_cons, List.length_nil, Nat.reduceAdd, Nat.reduceSub, Array.replicate_succ, Array.replicate_zero, List.push_toArray, List.append_toArray, List.nil_append, List.cons_append]
  gi_wp2_with (fail)
  refine wpIn_scope_straight ?_
  gi_wp2_with (fail)
  have x1 := (Blk.new w 50 #[.slice none 0 0]).alloc (.cells #[.int .i64 22] 3)
  have x2 := Blk.new (w.alloc (.cells #[.slice none 0 0] 50)) 3 #[.int .i64 22]
  rw [World.size_alloc] at x2
  have hb0 := bl_new (bl_new (Below.refl w.heap.size w) (.cells #[.slice none 0 0] 50)) (.cells #[.int .i64 22] 3)
  have hs0 : ((w.alloc (.cells #[.slice none 0 0] 50)).alloc (.cells #[.int .i64 22] 3)).heap.size = w.heap.size + 2 := by simp
  generalize ((w.alloc (.cells #[.slice none 0 0] 50)).alloc (.cells #[.int .i64 22] 3)) = W1 at *
  refine wpIn_label ?_
  gi_wp2_with (refine ⟨trivial, ?_⟩; gi_at_call 22; refine (from_in (n - 1) _ _ _).mono ?_; rintro e w' ⟨rfl, rfl⟩)
  have y1 := (Blk.new W1 24 #[.pointer (some ⟨sb, 0, none⟩)]).alloc (.cells #[.int .u32 (a : Int)] 26) |>.alloc (.cells #[.int .i64 (most : Int)] 3)
  have y2 := (Blk.new (W1.alloc (.cells #[.pointer (some ⟨sb, 0, none⟩)] 24)) 26 #[.int .u32 (a : Int)]).alloc (.cells #[.int .i64 (most : Int)] 3)
  have y3 := Blk.new ((W1.alloc (.cells #[.pointer (some ⟨sb, 0, none⟩)] 24)).alloc (.cells #[.int .u32 (a : Int)] 26)) 3 #[.int .i64 (most : Int)]
  simp only [World.size_alloc, hs0, Nat.add_assoc, Nat.reduceAdd] at y1 y2 y3 ⊢
  have hb5 := bl_new (bl_new (bl_new hb0 (.cells #[.pointer (some ⟨sb, 0, none⟩)] 24)) (.cells #[.int .u32 (a : Int)] 26)) (.cells #[.int .i64 (most : Int)] 3)
  have z1 := ((x1.alloc (.cells #[.pointer (some ⟨sb, 0, none⟩)] 24)).alloc (.cells #[.int .u32 (a : Int)] 26)).alloc (.cells #[.int .i64 (most : Int)] 3)
  have z2 := ((x2.alloc (.cells #[.pointer (some ⟨sb, 0, none⟩)] 24)).alloc (.cells #[.int .u32 (a : Int)] 26)).alloc (.cells #[.int .i64 (most : Int)] 3)
  have hs5 : (((W1.alloc (.cells #[.pointer (some ⟨sb, 0, none⟩)] 24)).alloc (.cells #[.int .u32 (a : Int)] 26)).alloc (.cells #[.int .i64 (most : Int)] 3)).heap.size = w.heap.size + 5 := by simp [hs0]
  generalize (((W1.alloc (.cells #[.pointer (some ⟨sb, 0, none⟩)] 24)).alloc (.cells #[.int .u32 (a : Int)] 26)).alloc (.cells #[.int .i64 (most : Int)] 3)) = W5 at *
  have HT0 := Lib.hid (fun C => (show TI w 22 C [] W5 from ⟨⟨.slice none 0 0, z1, World.ownsRow_nil _ _ _ _⟩, z2, hb5, by omega⟩))
  have HY := Lib.hid (show Blk W5 (w.heap.size + 2) 24 #[.pointer (some ⟨sb, 0, none⟩)] ∧ Blk W5 (w.heap.size + 3) 26 #[.int .u32 (a : Int)] ∧ Blk W5 (w.heap.size + 4) 3 #[.int .i64 (most : Int)] ∧ Below w.heap.size w W5 from ⟨y1, y2, y3, hb5⟩)
  clear x1 x2 hb0 hs0 y1 y2 y3 hb5 z1 z2
  refine wpIn_rangeFunc_PC (α := Int × Bool) rfl h1 (gf := 40) (lb := #[.pointer (some ⟨w.heap.size + 4, 0, none⟩), .pointer (some ⟨w.heap.size + 3, 0, none⟩), .pointer (some ⟨w.heap.size + 2, 0, none⟩)]) rfl trivial (enters_of Try.func40 (by kernel_rfl) rfl)
    (fun W hb hs => from_seq HH.out HOK.out (n - 1) (by omega) _ (w.heap.size + 2) a most ha hm.2 W (HY.out.1.below hb HY.out.1.lt) (HY.out.2.1.below hb HY.out.2.1.lt) (HY.out.2.2.1.below hb HY.out.2.2.1.lt) (bl_step HY.out.2.2.2 hb))
    (fun h k => h.t k) (fun W r o' hl => KpF.b W _ _ o' (by omega) hl rfl) (fun _ => rfl) (w.heap.size + 5) hs5
    (fun C pre W => TI w 22 C (fstL pre) W ∧ ∀ x ∈ pre, goodB x)
    (fun C c pre W => ∃ e pp x, c = .exit 0 ∧ TI w e C (fstL pp) W ∧ pre = pp ++ [x] ∧ (∀ y ∈ pp, goodB y) ∧ ((x.2 = false ∧ e = 14) ∨ (x.2 = true ∧ x.1 = 0 ∧ e = 0)))
    (fun C s W W' row hs hg hr => ⟨hs.1.priv hg hr, hs.2⟩)
    (fun C c s W W' row hs hg hr => by
      obtain ⟨e, pp, x, g1, g2, g3, g4, g5⟩ := hs
      exact ⟨e, pp, x, g1, g2.priv hg hr, g3, g4, g5⟩)
    (fun C => ⟨HT0.out C, fun x hx => by cases hx⟩)
    (fun x => [(22, .int .u8 x.1), (23, .bool x.2), (10, .int .u8 x.1), (11, .bool x.2)])
    ?assign ?body ?done ?stop
  case assign =>
    rintro l C pre x W K hC hI hR hK
    obtain ⟨c, is⟩ := x
    simp only [encB, setL] at hK ⊢
    gi_wp2
    exact hK _ (KeepsFrom.refl _ _) (KpF.of_below (Below.refl _ _) hI.1.lo.size) hI
  case body =>
    rintro l C pre x W hl ⟨r, hr⟩ hC1 hC2 ⟨hI, hgood⟩ hR hlen
    obtain ⟨c, is⟩ := x
    simp only [setL, List.setIfInBounds_toArray, List.set_cons_zero, List.set_cons_succ]
    have HI := Lib.hid hI
    have HG := Lib.hid hgood
    have ck := hI.code.cell 0
    simp only [List.getElem?_toArray, List.getElem?_cons_zero] at ck
    have kf := hI.code.frozen 0
    have kl := hI.code.lt
    have HLN := Lib.hid hlen
    have HR := Lib.hid hR
    clear hI hgood hlen hR
    cases is with
    | false =>
      have HP := Lib.hid (HI.out.put (e' := 14) (by omega))
      gi_wp2
      show leftP _ _ _ _ _ _ (.exit 0) _ _
      exact ⟨HP.out.2.1, HP.out.2.2, 14, pre, (c, false), rfl, HP.out.1, rfl, HG.out, .inl ⟨rfl, rfl⟩⟩
    | true =>
      by_cases hc : c = 0
      · subst hc
        have HP := Lib.hid (HI.out.put (e' := 0) (by omega))
        gi_wp2
        show leftP _ _ _ _ _ _ (.exit 0) _ _
        exact ⟨HP.out.2.1, HP.out.2.2, 0, pre, (0, true), rfl, HP.out.1, rfl, HG.out, .inr ⟨rfl, rfl, rfl⟩⟩
      · have hc0 : (c == 0) = false := beq_eq_false_iff_ne.2 hc
        obtain ⟨vo, hvo, hro⟩ := HI.out.out
        have o0 := hvo.cell 0
        simp only [List.getElem?_toArray, List.getElem?_cons_zero] at o0
        have of := hvo.frozen 0
        have ol := hvo.lt
        have hbl := bl_new (Below.refl W.heap.size W) (.cells #[.int .u8 c] 5)
        have HBL := Lib.hid hbl
        have HRO := Lib.hid (ownsRow_below hro hbl)
        have HVO := Lib.hid (hvo.below hbl hvo.lt)
        have HIV := Lib.hid (show TI w 22 C (fstL pre) (W.alloc (.cells #[.int .u8 c] 5)) from HI.out.priv (grownBy_below hbl) (fun r e => by cases e))
        have hpl : (fstL pre).length ≤ 4097 := by rw [fstL_len]; have := HLN.out; omega
        have hcw : C ≤ (W.alloc (.cells #[.int .u8 c] 5)).heap.size := by have := hbl.size; omega
        have HCW := Lib.hid hcw
        have HWS := Lib.hid HI.out.lo.size
        have HGC := Lib.hid (show goodB (c, true) from ⟨rfl, hc⟩)
        clear hbl hro hvo hc
        gi_wp2_with (gi_at_builtin; refine wpListIn_append_own _ rfl _ _ 50 rfl C 5 i0 _ 1 1 Try.underlying50 hi hz0 hz1 hz2 rfl (by decide) vo _ _ rfl HRO.out ⟨W.heap.size, 0, none⟩ 1 1 [.int .u8 c] rfl rfl (cells_new _ _ _) (by simp [Value.oneCell']) (by unfold maxLen; omega) (by omega) HCW.out ?_; intro v' w9 hown9 hgrow9 _; obtain ⟨g9, cap9, _, rfl, _, _, _⟩ := row_open hown9 (by omega); obtain ⟨hq1, hq2, hq3⟩ := TI.more HIV.out HVO.out HRO.out hgrow9 HCW.out (by omega) HBL.out HWS.out hown9; have HQ1 := Lib.hid hq1; have HQ2 := Lib.hid hq2; have o9 := hq3.cell 0; simp only [List.getElem?_toArray, List.getElem?_cons_zero] at o9; have f9 := hq3.frozen 0; have l9 := hq3.lt; clear hq1 hq2 hq3 hown9 hgrow9)
        show leftP _ _ _ _ _ _ .normal _ _
        refine ⟨HQ1.out.1, HQ1.out.2, ?_, fun y hy => ?_⟩
        · show TI w 22 C (fstL (pre ++ [(c, true)])) _
          rw [fstL_app]
          exact HQ2.out
        · rcases List.mem_append.1 hy with hy | hy
          · exact HG.out y hy
          · rw [List.mem_singleton] at hy
            rw [hy]; exact HGC.out
  case done =>
    rintro D C xs W hD hC hS ⟨hI, hgood⟩ hK
    obtain ⟨k, rfl, hkm, hke⟩ := hS
    have hkk : k = most := by
      rcases hke with e | ⟨j, rfl, hj⟩
      · exact e
      · have := (hgood (itF F m a j) (by unfold itL; exact List.mem_map.2 ⟨j, List.mem_range.2 (by omega), rfl⟩)).1
        rw [hj] at this
        cases this
    have htx : textP F m a most = ([], 22) := by
      rw [textP_at F m a most k hkm hgood, hkk, Nat.sub_self]; rfl
    have ck := hI.code.cell 0
    simp only [List.getElem?_toArray, List.getElem?_cons_zero] at ck
    have kl := hI.code.lt
    have HLO := Lib.hid hI.lo
    have HTX := Lib.hid htx
    clear hI hgood htx hke
    gi_wp2
    gi_region
    gi_wp2
    rw [Exit.noGoto_ret]
    refine ⟨by simp, .inl ⟨_, _, rfl, run_takeDeferred hK, ?_⟩⟩
    exact ⟨_, results_tmp2 rfl _ _ _, by rw [HTX.out]; rfl, HLO.out.trans ((Below.refl _ W).drew.trans (belowK_b (w := w) (Nat.le_refl _) W.drew D _ _ (by omega) hK rfl rfl))⟩
  case stop =>
    rintro D C c pre W hD hC hSp ⟨e, pp, x, rfl, hI, rfl, hgood, hx⟩ hK
    obtain ⟨k, hkm, rfl, rfl⟩ := itL_end hSp
    have htx := textP_at F m a most k (by omega) hgood
    obtain ⟨j, hj⟩ : ∃ j, most - k = j + 1 := ⟨most - k - 1, by omega⟩
    rw [hj, textG] at htx
    have ck := hI.code.cell 0
    simp only [List.getElem?_toArray, List.getElem?_cons_zero] at ck
    have kl := hI.code.lt
    have HLO := Lib.hid hI.lo
    rcases hx with ⟨h2, rfl⟩ | ⟨h2, h3, rfl⟩
    · rw [if_pos h2] at htx
      have HTX := Lib.hid htx
      clear hI hgood htx h2 hj hSp
      gi_wp2
      gi_region
      gi_wp2
      rw [Exit.noGoto_ret]
      refine ⟨by simp, .inl ⟨_, _, rfl, run_takeDeferred hK, ?_⟩⟩
      exact ⟨_, results_tmp2 rfl _ _ _, by rw [HTX.out]; rfl, HLO.out.trans ((Below.refl _ W).drew.trans (belowK_b (w := w) (Nat.le_refl _) W.drew D _ _ (by omega) hK rfl rfl))⟩
    · rw [if_neg (by rw [h2]; decide), if_pos h3] at htx
      have HTX := Lib.hid htx
      obtain ⟨v, hv, hrow⟩ := hI.out
      have hcv := conv_rowU hrow
      have c10 := hv.cell 0
      simp only [List.getElem?_toArray, List.getElem?_cons_zero] at c10
      have l10 := hv.lt
      clear hI hgood htx h2 h3 hj hSp hrow hv
      obtain ⟨str, hstr⟩ : ∃ str, str = strOfNums (fstL (itL F m a k)) := ⟨_, rfl⟩
      rw [← hstr] at hcv
      have HSTR := Lib.hid hstr
      clear hstr
      gi_wp2
      rw [Exit.noGoto_ret]
      refine ⟨by simp, .inl ⟨_, _, rfl, run_takeDeferred hK, ?_⟩⟩
      exact ⟨_, results_tmp2 rfl _ _ _, by rw [HTX.out, HSTR.out]; rfl, HLO.out.trans (belowK_b (w := w) (Nat.le_refl _) W D _ _ (by omega) hK rfl rfl)⟩
theorem text_any (h : FS w fb lb cap F sb bt q m) (hok : SpOk F m) (a most : Nat) (ha : a < 4294967296) (hm : 1 ≤ most ∧ most ≤ 4096) :
    Calls Try.prog 9 #[.pointer (some ⟨sb, 0, none⟩), .int .u32 a, .int .i64 most] w fun e w' => e = .returned (.tuple #[.string (strOfNums (textP F m a most).1), .int .i64 (textP F m a most).2]) ∧ Below w.heap.size w w' :=
  callsIn_wide.1 (text_in 16 (by decide) h hok a most ha hm)
end
end Go.Proofs.Ytlecfdchmcghlaa
