/-
  Read of spaces. Condition: the space and the frames lie in blocks of their own; each page's frame is used, and of that page alone within the space.
-/
import Derived.Deep.Onto
import Derived.Test.YtlecfdchmcghlaaSp8
namespace Go.Proofs.Ytlecfdchmcghlaa
open Go.RowKit Go.Shelf
set_option linter.unusedVariables false
set_option linter.unusedSimpArgs false
attribute [local go_sem] Oper.semAt_some

/-- The law for an iterator's caller, where each round's variables are boxed, and rows grow that are made within the loop. -/
theorem wpIn_rangeFunc_PB {F : Fence} {n : Nat} {P : Program} {w : World} {α : Type} {g : Operand} {ps : Array Tmp} {assign body : Code} {Q : Exit → Act → World → Prop} {a : Act}
    (hro : F.round = none) (h1 : 1 ≤ n) {gf : Nat} {lb : Array Value} (hg : a.eval g = .func (.func gf) #[] lb) (hFg : F.fn gf) (eg : ∀ args w, (callFunc gf args).run P w = .ok (.enter gf args) w)
    {encs : α → Array Value} {Rr : List α → α → Prop} {Kp : World → World → Prop} {S Sp : List α → Prop} {N : Nat}
    (hseq : ∀ W, Below w.heap.size w W → W.heap.size = w.heap.size + 2 → SeqP F (n - 1) P gf lb encs (fun _ _ => True) Rr Kp S Sp N (w.heap.size + 1) W)
    (hKt : ∀ {A B C : World}, Kp A B → Kp B C → Kp A C) (hKb : ∀ (W : World) (r : Loop) (o' : Obj), W.heap[w.heap.size + 1]? = some (.loop r) → Kp W (W.putObj (w.heap.size + 1) o')) (hps : ∀ x, (encs x).size = ps.size)
    (B : Nat) (hB : w.heap.size = B) (I : Nat → List α → World → Prop) (hI : ∀ C, PrivP B C (I C)) (h0 : ∀ C, I C [] w)
    (bt : TypeId) (bc : α → Array Value) (fs : α → Nat → List (Nat × Value))
    (hassign : ∀ (l C : Nat) (pre : List α) (x : α) (W : World) (K : Act → World → Prop), C ≤ W.heap.size → I C pre W → Rr pre x → (∀ a' W', KeepsFrom B W W' → Kp W W' → I C pre W' → True → (∃ b, B ≤ b ∧ Blk W' b bt (bc x) ∧ a' = ⟨setL a.tmps (fs x b), []⟩) → K a' W') →
      assign.wpIn (F.inRound l) (n - 1 - 1) P (Exit.then K (fun _ _ _ => False)) { tmps := (ps.zip (encs x)).foldl (fun t (p, v) => t.setIfInBounds p v) a.tmps, defers := [] } W)
    (hbody : ∀ (l C : Nat) (pre : List α) (x : α) (b : Nat) (W : World), B ≤ l → (∃ r, W.heap[l]? = some (.loop r)) → B + 2 ≤ C → C ≤ W.heap.size → I C pre W → Rr pre x → B ≤ b → Blk W b bt (bc x) → pre.length < N → body.wpIn (F.inRound l) (n - 1 - 1) P (leftP B Kp (I C) (fun _ _ _ => False) (pre ++ [x]) W) ⟨setL a.tmps (fs x b), []⟩ W)
    (hdone : ∀ (D C : Nat) (xs : List α) (W : World), B ≤ D → B + 2 ≤ C → S xs → I C xs W → W.heap[D]? = some (.deferred (some [])) → Q .normal { a with defers := { target := .collected D, args := #[] } :: a.defers } W) :
    (Code.rangeFunc g ps assign body).wpIn F n P Q a w := by
  subst hB
  exact wpIn_rangeFunc_P hro h1 hg hFg eg hseq hKt hKb hps (fun _ _ _ _ _ _ _ _ => trivial) I (fun _ _ _ _ => False) hI (fun _ _ _ _ _ _ h _ _ => h.elim) h0
    (fun x a' W => ∃ b, w.heap.size ≤ b ∧ Blk W b bt (bc x) ∧ a' = ⟨setL a.tmps (fs x b), []⟩)
    (fun x a' _ X Y row hs hg hr => by obtain ⟨b, g1, g2, g3⟩ := hs; exact ⟨b, g1, blk_own b bt (fun (_ : Unit) => bc x) () X Y row g2 hg (fun r e => (hr r e).2), g3⟩)
    (fun l C pre x W K _ hC hi _ hr hK => hassign l C pre x W K hC hi hr hK)
    (fun l C pre x a' W hl hr hC1 hC2 hi _ hR hax hlen => by obtain ⟨b, g1, g2, rfl⟩ := hax; exact hbody l C pre x b W hl hr hC1 hC2 hi hR g1 g2 hlen)
    (fun D C xs W hD hC hS hi hk => hdone D C xs W hD hC hS hi hk) (fun D C c pre W hD _ hS hi hk => hi.elim)
/-- The bytes of the first pieces. -/
def readK (F : Fs) (m : M) (a n : Nat) : Nat → List Int
  | 0 => []
  | k + 1 => readK F m a n k ++ (match look m ((a / 64 + k : Nat) : Int) with
    | some x => partB F x.f.toNat (pcK a n k).off (pcK a n k).n
    | none => [])
def readB (F : Fs) (m : M) (a n : Nat) : List Int := readK F m a n (pcJ a n)
theorem infoU8 : (Try.prog.info? 5).map (fun i => (i.zero, i.size, i.bytes)) = some (some (.int .u8 0), 1, 1) := by kernel_rfl
theorem row_block {w : World} {base : Nat} {e : TypeId} {v : Value} {n : Nat} {xs : List Value} (h : w.ownsRow base e 1 v n xs) {r : Nat} (hr : v.ownBlock = some r) : base ≤ r ∧ ∃ cur, Blk w r e cur := by
  rcases h.2 with ⟨h1, h2⟩ | ⟨g, cap, cur, rfl, hb, hg, _⟩
  · subst h1
    simp [Value.ownBlock] at hr
  · obtain rfl : g = r := by simpa [Value.ownBlock] using hr
    exact ⟨hb, cur, hg⟩
theorem row_open {w : World} {base : Nat} {e : TypeId} {v : Value} {n : Nat} {xs : List Value} (h : w.ownsRow base e 1 v n xs) (hn : 0 < n) :
    ∃ (g cap : Nat) (cur : Array Value), v = .slice (some ⟨g, 0, none⟩) n cap ∧ base ≤ g ∧ Blk w g e cur ∧ ∀ (k : Nat) (u : Value), xs[k]? = some u → cur[k]? = some u := by
  rcases h.2 with ⟨_, h0⟩ | ⟨g, cap, cur, rfl, hb, hg, _, _, _, ht⟩
  · omega
  · refine ⟨g, cap, cur, rfl, hb, hg, fun k u hk => ?_⟩
    rw [← ht, List.getElem?_take] at hk
    split at hk
    · simpa using hk
    · cases hk
/-- What lies while Read goes through pieces. -/
structure RI (w : World) (S0 N0 sb C : Nat) (l : List Int) (W : World) : Prop where
  bs : Blk W S0 24 #[.pointer (some ⟨sb, 0, none⟩)]
  out : ∃ v, Blk W N0 50 #[v] ∧ W.ownsRow C 5 1 v l.length (l.map fun x => Value.int .u8 x)
  lo : Below S0 w W
  sz : N0 + 3 ≤ W.heap.size
theorem RI.priv {w : World} {S0 N0 sb C : Nat} (h1 : S0 ≤ N0) (hw : S0 ≤ w.heap.size) (f : List Pc → List Int) : PrivP (N0 + 3) C (fun pre W => RI w S0 N0 sb C (f pre) W) := fun pre W W' row hs hg hr => by
  obtain ⟨v, hv, hrow⟩ := hs.out
  refine ⟨hs.bs.grown hg (fun e => by have := (hr _ e.symm).1; omega), ⟨v, hv.grown hg (fun e => by have := (hr _ e.symm).1; omega), hrow.kept hg ?_⟩, hs.lo.grown hg (by have := hs.lo.size; omega) (fun k e => by have := (hr k e).1; omega), Nat.le_trans hs.sz hg.size⟩
  cases hb : v.ownBlock with
  | none => exact .inl rfl
  | some r =>
    refine .inr (fun e => ?_)
    obtain ⟨hr1, cur, hr2⟩ := row_block hrow hb
    rcases (hr r e.symm).2 with h3 | ⟨o, ho, hc⟩
    · omega
    · rw [show W.heap[r]? = _ from hr2] at ho
      cases ho
      cases hc
theorem RI.below {w W W' : World} {S0 N0 sb C : Nat} {bs : List Int} (hSN : S0 ≤ N0) (h : RI w S0 N0 sb C bs W) (hb : Below W.heap.size W W') : RI w S0 N0 sb C bs W' := by
  obtain ⟨v, hv, hrow⟩ := h.out
  exact ⟨h.bs.below hb h.bs.lt, ⟨v, hv.below hb hv.lt, ownsRow_below hrow hb⟩, h.lo.trans (hb.mono (by have := h.sz; omega)), Nat.le_trans h.sz hb.size⟩
/-- Bytes more. -/
theorem RI.more {w V W w9 : World} {S0 N0 sb C nn : Nat} {l l2 : List Int} {vo v' : Value} (h : RI w S0 N0 sb C l V) (hvo : Blk V N0 50 #[vo]) (hro : V.ownsRow C 5 1 vo l.length (l.map fun x => Value.int .u8 x)) (hg : V.grownBy w9 vo.ownBlock) (hC : C ≤ V.heap.size) (hN : S0 < N0 ∧ N0 + 3 ≤ C) (hW : Below W.heap.size W V)
    (hn : w9.ownsRow C 5 1 v' (l.length + nn) ((l.map fun x => Value.int .u8 x) ++ l2.map fun x => Value.int .u8 x)) (hl2 : l2.length = nn) :
    (KeepsFrom (N0 + 3) W (w9.setCell ⟨N0, 0, none⟩ v') ∧ KpP (N0 + 1) W (w9.setCell ⟨N0, 0, none⟩ v')) ∧ RI w S0 N0 sb C (l ++ l2) (w9.setCell ⟨N0, 0, none⟩ v') ∧ Blk w9 N0 50 #[vo] := by
  have hne : ∀ (k : Nat) (t : TypeId) (cs : Array Value), Blk V k t cs → t ≠ 5 → some k ≠ vo.ownBlock := fun k t cs hk ht e => by
    obtain ⟨_, cur, hr2⟩ := row_block hro e.symm
    exact ht (by unfold Blk at hk hr2; rw [hk] at hr2; cases hr2; rfl)
  have hnc : ∀ (k : Nat) (o : Obj), V.heap[k]? = some o → o.isCells = false → some k ≠ vo.ownBlock := fun k o hk ho e => by
    obtain ⟨_, cur, hr2⟩ := row_block hro e.symm
    unfold Blk at hr2
    rw [hk] at hr2
    cases hr2
    cases ho
  have hsz := hg.size
  have hvN := hvo.grown hg (hne _ _ _ hvo (by decide))
  refine ⟨⟨⟨?_, fun k o hk h0 ho => ?_⟩, ?_, fun k t cs hk ht h0 => ?_⟩, ⟨?_, ⟨v', hvN.set_ 0 _, ?_⟩, ?_, ?_⟩, hvN⟩
  · simp [World.setCell]; have := hW.size; omega
  · have hkW := (Array.getElem?_eq_some_iff.1 h0).1
    have hkV := (hW.block k hkW).trans h0
    exact (Below.heap_setCell _ _ _ k (by show k ≠ N0; omega)).trans ((hg.block k (Array.getElem?_eq_some_iff.1 hkV).1 (hnc k o hkV ho)).trans hkV)
  · simp [World.setCell]; have := hW.size; omega
  · have hkV := h0.below hW h0.lt
    exact (hkV.grown hg (hne _ _ _ hkV (by rcases ht with rfl | rfl | rfl <;> decide))).far (by show k ≠ N0; omega) _
  · exact (h.bs.grown hg (hne _ _ _ h.bs (by decide))).far (by show S0 ≠ N0; omega) _
  · rw [List.length_append, hl2, List.map_append]
    refine hn.kept (grownBy_setCell' w9 N0 v') (.inr (fun e => ?_))
    obtain ⟨hr1, _⟩ := row_block hn e
    omega
  · refine (h.lo.grown hg (by have := h.lo.size; omega) (fun k e => by obtain ⟨hr1, _⟩ := row_block hro e; omega)).setCell (by show S0 ≤ N0; omega) _
  · simp [World.setCell]; have := h.sz; omega
section
variable {w : World} {fb lb cap : Nat} {F : Fs} {sb bt : Nat} {q : Nat → Option Nat} {m : M}
theorem spMay_yes (h : FS w fb lb cap F sb bt q m) (hok : SpOk F m) (a k : Nat) (wr : Bool) (ha : a < 4294967296) (hk : k ≤ 4096) (hO : okK m a wr (pcJ a k)) :
    Calls Try.prog 35 #[.pointer (some ⟨sb, 0, none⟩), .int .u32 a, .int .i64 k, .bool wr] w fun e w' => e = .returned (.tuple #[.int .i64 (needK F m a (pcJ a k) : Nat), .bool true]) ∧ Below w.heap.size w w' :=
  (spMay_any h hok a k wr ha hk).mono fun e w' ⟨h1, h2⟩ => by
    rcases h1 with ⟨v, _, hno⟩ | ⟨h1, _⟩
    · exact absurd hO hno
    · exact ⟨h1, h2⟩
theorem spMay_no (h : FS w fb lb cap F sb bt q m) (hok : SpOk F m) (a k : Nat) (wr : Bool) (ha : a < 4294967296) (hk : k ≤ 4096) (hO : ¬ okK m a wr (pcJ a k)) :
    Calls Try.prog 35 #[.pointer (some ⟨sb, 0, none⟩), .int .u32 a, .int .i64 k, .bool wr] w fun e w' => ∃ v : Int, e = .returned (.tuple #[.int .i64 v, .bool false]) ∧ Below w.heap.size w w' :=
  (spMay_any h hok a k wr ha hk).mono fun e w' ⟨h1, h2⟩ => by
    rcases h1 with ⟨v, h1, _⟩ | ⟨_, hO'⟩
    · exact ⟨v, h1, h2⟩
    · exact absurd hO' hO
theorem readK_len (hok : SpOk F m) (hF : F.Ok) {a n : Nat} (hO : okK m a false (pcJ a n)) : ∀ j, j ≤ pcJ a n → (readK F m a n j).length = frK a n j
  | 0, _ => rfl
  | j + 1, h => by
    obtain ⟨x, hx, _⟩ := hO j (by omega)
    have hf := (pcJ_iff a n j).2 (by omega)
    rw [readK, hx, List.length_append, readK_len hok hF hO j (by omega), frK_step hf]
    show _ + (partB F x.f.toNat (pcK a n j).off (pcK a n j).n).length = _
    rw [partB_len hF _ _ _ (by show (a + frK a n j) % 64 + min (n - frK a n j) (64 - (a + frK a n j) % 64) ≤ 64; omega)]
    rfl
set_option maxRecDepth 100000 in
set_option maxHeartbeats 4000000 in
theorem spRead_no_in (n : Nat) (hn : 12 ≤ n) (h : FS w fb lb cap F sb bt q m) (hok : SpOk F m) (a k : Nat) (ha : a < 4294967296) (hk : k ≤ 4096) (hO : ¬ okK m a false (pcJ a k)) :
    CallsIn Fence.wide n Try.prog 32 #[.pointer (some ⟨sb, 0, none⟩), .int .u32 a, .int .i64 k] w fun e w' => e = .returned (.tuple #[.slice none 0 0, .int .i64 14]) ∧ Below w.heap.size w w' := by
  have h1 : 1 ≤ n := by omega
  have HN := Lib.hid (fun W hb => spMay_no (h.below (W := W) hb) hok a k false ha hk hO)
  clear h hok hO
  have x3 := Blk.new w 24 #[.pointer (some ⟨sb, 0, none⟩)]
  have HB3 := Lib.hid x3
  have hb3 := bl_new (Below.refl w.heap.size w) (.cells #[.pointer (some ⟨sb, 0, none⟩)] 24)
  have hs3 : (w.alloc (.cells #[.pointer (some ⟨sb, 0, none⟩)] 24)).heap.size = w.heap.size + 1 := by simp
  refine callsIn_of_wp Try.func32 rfl trivial ?_ rfl
  simp only [Try.ntmps32, List.size_toArray, List.length_cons, List.length_nil, Nat.reduceAdd, Nat.reduceSub, Array.replicate_succ, Array.replicate_zero, List.push_toArray, List.append_toArray, List.nil_append, List.cons_append]
  have c3 := x3.cell 0
  simp only [List.getElem?_toArray, List.getElem?_cons_zero] at c3
  have l3 := x3.lt
  gi_wp2_with (refine ⟨trivial, ?_⟩; gi_at_call 35; refine (callsIn_wide.2 (HN.out _ hb3)).mono ?_; rintro e W1 ⟨v, rfl, hb1⟩; have HBB := Lib.hid (bl_step hb3 hb1))
  go_ret2
  exact ⟨rfl, HBB.out⟩
set_option maxRecDepth 100000 in
set_option maxHeartbeats 4000000 in
theorem spRead_in (n : Nat) (hn : 12 ≤ n) (h : FS w fb lb cap F sb bt q m) (hok : SpOk F m) (a k : Nat) (ha : a < 4294967296) (hk : k ≤ 4096) (hO : okK m a false (pcJ a k)) :
    CallsIn Fence.wide n Try.prog 32 #[.pointer (some ⟨sb, 0, none⟩), .int .u32 a, .int .i64 k] w fun e w' =>
      ∃ v, e = .returned (.tuple #[v, .int .i64 0]) ∧ w'.ownsRow w.heap.size 5 1 v k ((readB F m a k).map fun x => Value.int .u8 x) ∧ Below w.heap.size w w' := by
  have h1 : 1 ≤ n := by omega
  obtain ⟨i0, hi, hz0, hz1, hz2⟩ := info_parts infoU8
  have HN := Lib.hid (fun W hb => spMay_yes (h.below (W := W) hb) hok a k false ha hk hO)
  have HH := Lib.hid h
  have HOK := Lib.hid hok
  have HYES := Lib.hid hO
  clear h hok hO
  have x3 := Blk.new w 24 #[.pointer (some ⟨sb, 0, none⟩)]
  have HB3 := Lib.hid x3
  have hb3 := bl_new (Below.refl w.heap.size w) (.cells #[.pointer (some ⟨sb, 0, none⟩)] 24)
  have hs3 : (w.alloc (.cells #[.pointer (some ⟨sb, 0, none⟩)] 24)).heap.size = w.heap.size + 1 := by simp
  refine callsIn_of_wp_marks Try.func32 rfl trivial ?_ rfl
  simp only [Try.ntmps32, List.size_toArray, List.length_cons, List.length_nil, Nat.reduceAdd, Nat.reduceSub, Array.replicate_succ, Array.replicate_zero, List.push_toArray, List.append_toArray, List.nil_append, List.cons_append]
  have c3 := x3.cell 0
  simp only [List.getElem?_toArray, List.getElem?_cons_zero] at c3
  have l3 := x3.lt
  gi_wp2_with (refine ⟨trivial, ?_⟩; first | (gi_at_call 35; refine (callsIn_wide.2 (HN.out _ hb3)).mono ?_; rintro e W1 ⟨rfl, hb1⟩; have HBB := Lib.hid (bl_step hb3 hb1); have HX3 := Lib.hid (HB3.out.below hb1 HB3.out.lt); have hs1 := hb1.size; rw [hs3] at hs1; clear hb1) | (gi_at_call 36; refine (pieces_in (n - 1) _ _ _).mono ?_; rintro e w' ⟨rfl, rfl⟩))
  simp only [Nat.add_assoc, Nat.reduceAdd]
  have ba := (Blk.new (W1.alloc (.cells #[.slice none 0 0] 50)) 26 #[.int .u32 (a : Int)]).alloc (.cells #[.int .i64 (k : Int)] 3)
  have bn := Blk.new ((W1.alloc (.cells #[.slice none 0 0] 50)).alloc (.cells #[.int .u32 (a : Int)] 26)) 3 #[.int .i64 (k : Int)]
  have bo := ((Blk.new W1 50 #[.slice none 0 0]).alloc (.cells #[.int .u32 (a : Int)] 26)).alloc (.cells #[.int .i64 (k : Int)] 3)
  have b3 := ((HX3.out.alloc (.cells #[.slice none 0 0] 50)).alloc (.cells #[.int .u32 (a : Int)] 26)).alloc (.cells #[.int .i64 (k : Int)] 3)
  have hbb := bl_new (bl_new (bl_new HBB.out (.cells #[.slice none 0 0] 50)) (.cells #[.int .u32 (a : Int)] 26)) (.cells #[.int .i64 (k : Int)] 3)
  have hs8 : (((W1.alloc (.cells #[.slice none 0 0] 50)).alloc (.cells #[.int .u32 (a : Int)] 26)).alloc (.cells #[.int .i64 (k : Int)] 3)).heap.size = W1.heap.size + 3 := by simp
  simp only [World.size_alloc, Nat.add_assoc, Nat.reduceAdd] at ba bn
  generalize ((W1.alloc (.cells #[.slice none 0 0] 50)).alloc (.cells #[.int .u32 (a : Int)] 26)).alloc (.cells #[.int .i64 (k : Int)] 3) = W2 at *
  generalize W1.heap.size = N0 at *
  have hRI : ∀ C, RI w w.heap.size N0 sb C (readK F m a k 0) W2 := fun C => ⟨b3, ⟨_, bo, World.ownsRow_nil _ _ _ _⟩, hbb, by omega⟩
  clear b3 bo hbb hb3 c3 l3 x3 HB3 HX3 HBB hs3
  refine wpIn_rangeFunc_PB rfl h1 (gf := 57) (lb := #[.pointer (some ⟨N0 + 2, 0, none⟩), .pointer (some ⟨N0 + 1, 0, none⟩)]) rfl trivial (enters_of Try.func57 (by kernel_rfl) rfl)
    (fun W hb hs => pieces_seq (n - 1) (by omega) _ (N0 + 1) (N0 + 2) (N0 + 1) a k ha hk W (bn.below hb bn.lt) (ba.below hb ba.lt) (by omega) (by omega))
    kpP_t (fun W r o' hl => kpP_b (w := W2) W _ _ o' (by omega) hl rfl rfl) (fun _ => rfl) (N0 + 3) hs8
    (fun C pre W => RI w w.heap.size N0 sb C (readK F m a k pre.length) W) (fun C => RI.priv (by omega) (Nat.le_refl _) (fun pre => readK F m a k pre.length)) hRI
    88 (fun x => #[.int .i64 x.page, .int .i64 x.off, .int .i64 x.from_, .int .i64 x.n]) (fun x b => [(28, .agg #[.int .i64 x.page, .int .i64 x.off, .int .i64 x.from_, .int .i64 x.n]), (11, .pointer (some ⟨b, 0, none⟩))])
    ?assign ?body ?done
  case assign =>
    rintro l C pre x W K hC hI hR hK
    obtain ⟨pg, of, fr, nn⟩ := x
    simp only [encPc] at hK ⊢
    gi_wp2
    exact hK _ _ ((KeepsOthers.alloc _ _).from _) (KpP.of_below ((Below.refl _ W).alloc (Nat.le_refl _) _)) (hI.below (by omega) ((Below.refl _ W).alloc (Nat.le_refl _) _)) trivial ⟨W.heap.size, hI.sz, Blk.new W _ _, rfl⟩
  case body =>
    rintro l C pre x Bx W hl ⟨r, hr⟩ hC1 hC2 hI hR hBx bX hlen
    obtain ⟨j, hpre, hx, hjk⟩ := hR
    have HPRE := Lib.hid (show pre.length = j from by rw [hpre, pcN_len])
    have HPG := Lib.hid (show x.page = a / 64 + j from by rw [hx]; exact frK_page hjk)
    have HXK := Lib.hid hx
    have HJK := Lib.hid hjk
    have HJJ := Lib.hid ((pcJ_iff a k j).1 hjk)
    have HON := Lib.hid (show x.off < 64 ∧ x.off + x.n ≤ 64 ∧ 0 < x.n ∧ x.n ≤ 64 from by
      rw [hx]
      show (a + frK a k j) % 64 < 64 ∧ (a + frK a k j) % 64 + min (k - frK a k j) (64 - (a + frK a k j) % 64) ≤ 64 ∧ 0 < min (k - frK a k j) (64 - (a + frK a k j) % 64) ∧ min (k - frK a k j) (64 - (a + frK a k j) % 64) ≤ 64
      omega)
    clear hpre hx hjk
    obtain ⟨pg, of, fr, nn⟩ := x
    simp only at bX HON HPG
    have HI := Lib.hid hI
    have HBX := Lib.hid bX
    have HLN := Lib.hid (show w.heap.size ≤ N0 from by have := hs1; omega)
    have HSN := Lib.hid (show w.heap.size < N0 from by have := hs1; omega)
    have hC1' : N0 + 3 ≤ C := by omega
    have HW := Lib.hid (fun W1 (hb : Below W.heap.size W W1) => HH.out.below (hI.lo.trans (hb.mono hI.lo.size)))
    have HFX := Lib.hid (fun W1 (hb : Below W.heap.size W W1) => (show W1.cell? ⟨w.heap.size, 0, none⟩ = some (.pointer (some ⟨sb, 0, none⟩)) ∧ W1.cell? ⟨sb, 1, none⟩ = some (.pointer (some ⟨bt, 0, none⟩)) ∧ W1.cell? ⟨Bx, 0, none⟩ = some (.int .i64 ((pg : Nat) : Int)) from
      ⟨(hI.bs.below hb hI.bs.lt).cell 0, (HW.out W1 hb).s.p.cell 1, (bX.below hb bX.lt).cell 0⟩))
    obtain ⟨x5, hlx, _⟩ := HYES.out j HJJ.out
    rw [← HPG.out] at hlx
    obtain ⟨f, a1, a2, a3, a4⟩ := x5
    have HG := Lib.hid (fun W1 (hb : Below W.heap.size W W1) => (show Calls Try.prog 37 #[.pointer (some ⟨bt, 0, none⟩), .int .i64 ((pg : Nat) : Int)] W1 fun e w' => e = .returned (.tuple #[.agg #[.int .i64 f, .bool a1, .bool a2, .bool a3, .bool a4], .bool true]) ∧ Below W1.heap.size W1 w' from by
      have := get_any (HW.out W1 hb).s.t ((pg : Nat) : Int)
      rw [hlx] at this
      exact this))
    have HP64 := Lib.hid (show pg < 64 from by
      have := hlx
      unfold look at this
      split at this
      · omega
      · cases this)
    have hmp : m pg = some ⟨f, a1, a2, a3, a4⟩ := by
      have := hlx
      rw [look_in m HP64.out] at this
      exact this
    obtain ⟨fn, hfn0, hfl, hfr⟩ := HOK.out.used pg _ HP64.out hmp
    have hfn : f = (fn : Int) := hfn0
    have HFN := Lib.hid hfl
    have HFR := Lib.hid hfr
    have HLX := Lib.hid hlx
    clear hmp hfn0 hfl hfr hlx
    subst hfn
    have HRK := Lib.hid (show readK F m a k (j + 1) = readK F m a k j ++ partB F fn of nn from by
      rw [readK, ← HPG.out, HLX.out, ← HXK.out]
      rfl)
    clear hI bX
    obtain ⟨ib, hib⟩ : ∃ ib : Bool, true = ib := ⟨_, rfl⟩
    rw [hib] at HG
    obtain ⟨f, hff⟩ : ∃ f : Int, (fn : Int) = f := ⟨_, rfl⟩
    rw [hff] at HG
    have HFF := Lib.hid hff
    clear hib hff
    simp only [setL, List.setIfInBounds_toArray, List.set_cons_zero, List.set_cons_succ]
    gi_wp2_with (fail)
    refine region_then (fun T a' W' => ∃ B2, Below W.heap.size W W' ∧ W.heap.size ≤ B2 ∧ Blk W' B2 71 #[.int .i64 f, .bool a1, .bool a2, .bool a3, .bool a4] ∧ a' = ⟨setL T [(30, .pointer (some ⟨sb, 0, none⟩)), (31, .pointer (some ⟨sb, 0, none⟩)), (32, .pointer (some ⟨sb, 1, none⟩)), (33, .pointer (some ⟨bt, 0, none⟩)), (34, .pointer (some ⟨Bx, 0, none⟩)), (35, .int .i64 ((pg : Nat) : Int)), (36, .tuple #[.agg #[.int .i64 f, .bool a1, .bool a2, .bool a3, .bool a4], .bool ib]), (29, .tuple #[.agg #[.int .i64 f, .bool a1, .bool a2, .bool a3, .bool a4], .bool ib]), (37, .agg #[.int .i64 f, .bool a1, .bool a2, .bool a3, .bool a4]), (38, .bool ib), (12, .pointer (some ⟨B2, 0, none⟩)), (13, .bool ib)], []⟩) ?reg ?rest
    case reg =>
      refine wpIn_region_heldN (S := fun w' => Below W.heap.size W w') (by kernel_rfl) ((Below.refl W.heap.size W).drew) (fun hS => ?_)
      refine wpAnyInH_take (i := 0) (v := ?_) rfl (by kernel_rfl) (by kernel_rfl) (by kernel_rfl) (fun _ _ _ h => h) (fun _ => rfl) (Or.inl ⟨by kernel_rfl, ?_⟩) hS ?_
      rotate_left 1
      · intro w hS
        obtain ⟨d0, d1, d2⟩ := HFX.out w hS
        go_simp
        all_goals with_reducible rfl
      try simp only [Act.put, List.setIfInBounds_toArray, List.set_cons_zero, List.set_cons_succ]
      refine wpAnyInH_take (i := 1) (v := ?_) rfl (by kernel_rfl) (by kernel_rfl) (by kernel_rfl) (fun _ _ _ h => h) (fun _ => rfl) (Or.inl ⟨by kernel_rfl, ?_⟩) hS ?_
      rotate_left 1
      · intro w hS
        obtain ⟨d0, d1, d2⟩ := HFX.out w hS
        go_simp
        all_goals with_reducible rfl
      try simp only [Act.put, List.setIfInBounds_toArray, List.set_cons_zero, List.set_cons_succ]
      refine wpAnyInH_take (i := 2) (v := ?_) rfl (by kernel_rfl) (by kernel_rfl) (by kernel_rfl) (fun _ _ _ h => h) (fun _ => rfl) (Or.inl ⟨by kernel_rfl, ?_⟩) hS ?_
      rotate_left 1
      · intro w hS
        obtain ⟨d0, d1, d2⟩ := HFX.out w hS
        go_simp
        all_goals with_reducible rfl
      try simp only [Act.put, List.setIfInBounds_toArray, List.set_cons_zero, List.set_cons_succ]
      refine wpAnyInH_take (i := 3) (v := ?_) rfl (by kernel_rfl) (by kernel_rfl) (by kernel_rfl) (fun _ _ _ h => h) (fun _ => rfl) (Or.inl ⟨by kernel_rfl, ?_⟩) hS ?_
      rotate_left 1
      · intro w hS
        obtain ⟨d0, d1, d2⟩ := HFX.out w hS
        go_simp
        all_goals with_reducible rfl
      try simp only [Act.put, List.setIfInBounds_toArray, List.set_cons_zero, List.set_cons_succ]
      refine wpAnyInH_take (i := 4) (v := ?_) rfl (by kernel_rfl) (by kernel_rfl) (by kernel_rfl) (fun _ _ _ h => h) (fun _ => rfl) (Or.inl ⟨by kernel_rfl, ?_⟩) hS ?_
      rotate_left 1
      · intro w hS
        obtain ⟨d0, d1, d2⟩ := HFX.out w hS
        go_simp
        all_goals with_reducible rfl
      try simp only [Act.put, List.setIfInBounds_toArray, List.set_cons_zero, List.set_cons_succ]
      refine wpAnyInH_take (i := 5) (v := ?_) rfl (by kernel_rfl) (by kernel_rfl) (by kernel_rfl) (fun _ _ _ h => h) (fun _ => rfl) (Or.inl ⟨by kernel_rfl, ?_⟩) hS ?_
      rotate_left 1
      · intro w hS
        obtain ⟨d0, d1, d2⟩ := HFX.out w hS
        go_simp
        all_goals with_reducible rfl
      try simp only [Act.put, List.setIfInBounds_toArray, List.set_cons_zero, List.set_cons_succ]
      refine wpAnyInH_ready (rs := [6, 10]) (by kernel_rfl) (by simp) ?_
      refine AllReadyInH.cons rfl (fun K hK => ?_) (AllReadyInH.cons rfl (fun K hK => ?_) AllReadyInH.nil)

      · skip
        go_simp
        refine ⟨trivial, fun _ => by omega, (callsIn_wide.2 (HG.out _ hS)).mono ?_⟩
        rintro e V ⟨rfl, hbV⟩
        refine hK.out _ _ (bl_step hS hbV) (fun hS => ?_)
        clear hK K
        try simp only [Act.put, List.setIfInBounds_toArray, List.set_cons_zero, List.set_cons_succ]
        have hVs : W.heap.size ≤ V.heap.size := hS.size
        refine wpAnyInH_take (i := 7) (v := ?_) rfl (by kernel_rfl) (by kernel_rfl) (by kernel_rfl) (fun _ _ _ h => h) (fun _ => rfl) (Or.inl ⟨by kernel_rfl, ?_⟩) hS ?_
        rotate_left 1
        · intro w hS
          go_simp
          all_goals with_reducible rfl
        try simp only [Act.put, List.setIfInBounds_toArray, List.set_cons_zero, List.set_cons_succ]
        refine wpAnyInH_take (i := 8) (v := ?_) rfl (by kernel_rfl) (by kernel_rfl) (by kernel_rfl) (fun _ _ _ h => h) (fun _ => rfl) (Or.inl ⟨by kernel_rfl, ?_⟩) hS ?_
        rotate_left 1
        · intro w hS
          go_simp
          all_goals with_reducible rfl
        try simp only [Act.put, List.setIfInBounds_toArray, List.set_cons_zero, List.set_cons_succ]
        refine wpAnyInH_take (i := 9) (v := ?_) rfl (by kernel_rfl) (by kernel_rfl) (by kernel_rfl) (fun _ _ _ h => h) (fun _ => rfl) (Or.inl ⟨by kernel_rfl, ?_⟩) hS ?_
        rotate_left 1
        · intro w hS
          go_simp
          all_goals with_reducible rfl
        try simp only [Act.put, List.setIfInBounds_toArray, List.set_cons_zero, List.set_cons_succ]
        refine wpAnyInH_ready (rs := [10]) (by kernel_rfl) (by simp) ?_
        refine AllReadyInH.cons rfl (fun K hK => ?_) AllReadyInH.nil
        go_simp
        refine hK.out _ _ (bl_new hS _) (fun hS => ?_)
        clear hK K
        try simp only [Act.put, List.setIfInBounds_toArray, List.set_cons_zero, List.set_cons_succ]
        refine wpAnyInH_ready (rs := [11]) (by kernel_rfl) (by simp) ?_
        refine AllReadyInH.cons rfl (fun K hK => ?_) AllReadyInH.nil
        go_simp
        refine hK.out _ _ (bl_new (by assumption) _) (fun hS => ?_)
        clear hK K
        try simp only [Act.put, List.setIfInBounds_toArray, List.set_cons_zero, List.set_cons_succ]
        refine wpAnyInH_take (i := 12) (v := ?_) rfl (by kernel_rfl) (by kernel_rfl) (by kernel_rfl) (fun _ _ _ h => h) (fun _ => rfl) (Or.inl ⟨by kernel_rfl, ?_⟩) hS ?_
        rotate_left 1
        · intro w hS
          go_simp
          all_goals with_reducible rfl
        try simp only [Act.put, List.setIfInBounds_toArray, List.set_cons_zero, List.set_cons_succ]
        refine wpAnyInH_done (by kernel_rfl) ?_ _
        refine ⟨V.heap.size, hS, hVs, Blk.new V _ _, ?_⟩
        simp only [setL, List.setIfInBounds_toArray, List.set_cons_zero, List.set_cons_succ]
        go_simp
      · skip
        go_simp
        refine hK.out _ _ (bl_new hS _) (fun hS => ?_)
        clear hK K
        try simp only [Act.put, List.setIfInBounds_toArray, List.set_cons_zero, List.set_cons_succ]
        refine wpAnyInH_ready (rs := [6]) (by kernel_rfl) (by simp) ?_
        refine AllReadyInH.cons rfl (fun K hK => ?_) AllReadyInH.nil
        go_simp
        refine ⟨trivial, fun _ => by omega, (callsIn_wide.2 (HG.out _ hS)).mono ?_⟩
        rintro e V ⟨rfl, hbV⟩
        refine hK.out _ _ (bl_step hS hbV) (fun hS => ?_)
        clear hK K
        try simp only [Act.put, List.setIfInBounds_toArray, List.set_cons_zero, List.set_cons_succ]
        refine wpAnyInH_take (i := 7) (v := ?_) rfl (by kernel_rfl) (by kernel_rfl) (by kernel_rfl) (fun _ _ _ h => h) (fun _ => rfl) (Or.inl ⟨by kernel_rfl, ?_⟩) hS ?_
        rotate_left 1
        · intro w hS
          go_simp
          all_goals with_reducible rfl
        try simp only [Act.put, List.setIfInBounds_toArray, List.set_cons_zero, List.set_cons_succ]
        refine wpAnyInH_take (i := 8) (v := ?_) rfl (by kernel_rfl) (by kernel_rfl) (by kernel_rfl) (fun _ _ _ h => h) (fun _ => rfl) (Or.inl ⟨by kernel_rfl, ?_⟩) hS ?_
        rotate_left 1
        · intro w hS
          go_simp
          all_goals with_reducible rfl
        try simp only [Act.put, List.setIfInBounds_toArray, List.set_cons_zero, List.set_cons_succ]
        refine wpAnyInH_take (i := 9) (v := ?_) rfl (by kernel_rfl) (by kernel_rfl) (by kernel_rfl) (fun _ _ _ h => h) (fun _ => rfl) (Or.inl ⟨by kernel_rfl, ?_⟩) hS ?_
        rotate_left 1
        · intro w hS
          go_simp
          all_goals with_reducible rfl
        try simp only [Act.put, List.setIfInBounds_toArray, List.set_cons_zero, List.set_cons_succ]
        have z := (show Blk V W.heap.size 71 E.zero.arr from (Blk.new W.drew 71 E.zero.arr).below hbV (by simp))
        have z0 := z.cell 0
        have z1 := z.cell 1
        have z2 := z.cell 2
        have z3 := z.cell 3
        have z4 := z.cell 4
        simp only [E.zero, E.arr, List.getElem?_toArray, List.getElem?_cons_zero, List.getElem?_cons_succ] at z0 z1 z2 z3 z4
        have g0 := z.frozen 0
        have g1 := z.frozen 1
        have g2 := z.frozen 2
        have g3 := z.frozen 3
        have g4 := z.frozen 4
        have zl := z.lt
        refine wpAnyInH_ready (rs := [11]) (by kernel_rfl) (by simp) ?_
        refine AllReadyInH.cons rfl (fun K hK => ?_) AllReadyInH.nil
        go_simp
        refine hK.out _ _ ((But.entrySet (S := fun _ => False) (But.of_below hS) (b := W.heap.size) (.inr (Nat.le_refl _)) _ _ _ _ _).below (fun _ h => h.elim) (Nat.le_refl _)) (fun hS => ?_)
        clear hK K
        try simp only [Act.put, List.setIfInBounds_toArray, List.set_cons_zero, List.set_cons_succ]
        refine wpAnyInH_take (i := 12) (v := ?_) rfl (by kernel_rfl) (by kernel_rfl) (by kernel_rfl) (fun _ _ _ h => h) (fun _ => rfl) (Or.inl ⟨by kernel_rfl, ?_⟩) hS ?_
        rotate_left 1
        · intro w hS
          go_simp
          all_goals with_reducible rfl
        try simp only [Act.put, List.setIfInBounds_toArray, List.set_cons_zero, List.set_cons_succ]
        refine wpAnyInH_done (by kernel_rfl) ?_ _
        refine ⟨W.heap.size, hS, Nat.le_refl _, z.entrySet (x := E.zero) _ _ _ _ _, ?_⟩
        simp only [setL, List.setIfInBounds_toArray, List.set_cons_zero, List.set_cons_succ]
        go_simp
    case rest =>
      rintro a' W5 ⟨B2, hb5, hB2, bx5, rfl⟩
      simp only [setL, List.setIfInBounds_toArray, List.set_cons_zero, List.set_cons_succ]
      have HI5 := Lib.hid (HI.out.below HLN.out hb5)
      have HB5 := Lib.hid hb5
      have HX5 := Lib.hid bx5
      have HXP := Lib.hid (HBX.out.below hb5 HBX.out.lt)
      have HF5 := Lib.hid (HW.out W5 hb5)
      clear hb5 bx5 HG HFX hB2 HW
      have HFX5 := Lib.hid (fun W1 (hb : Below W5.heap.size W5 W1) => (show W1.cell? ⟨w.heap.size, 0, none⟩ = some (.pointer (some ⟨sb, 0, none⟩)) ∧ W1.cell? ⟨sb, 0, none⟩ = some (.pointer (some ⟨fb, 0, none⟩)) ∧ W1.cell? ⟨B2, 0, none⟩ = some (.int .i64 f) ∧ W1.cell? ⟨Bx, 1, none⟩ = some (.int .i64 ((of : Nat) : Int)) ∧ W1.cell? ⟨Bx, 3, none⟩ = some (.int .i64 ((nn : Nat) : Int)) from
        ⟨(HI5.out.bs.below hb HI5.out.bs.lt).cell 0, (HF5.out.s.p.below hb HF5.out.s.p.lt).cell 0, (HX5.out.below hb HX5.out.lt).cell 0, (HXP.out.below hb HXP.out.lt).cell 1, (HXP.out.below hb HXP.out.lt).cell 3⟩))
      have hrd := frRead_any HF5.out.f.drew HFN.out HFR.out of nn HON.out.1 HON.out.2.1
      rw [HFF.out] at hrd
      have HRD := Lib.hid hrd
      clear hrd
      gi_wp2_with (fail)
      refine wpIn_region_heldN (S := fun w' => Below W5.heap.size W5 w') (by kernel_rfl) ((Below.refl W5.heap.size W5).drew) (fun hS => ?_)
      refine wpAnyInH_take (i := 0) (v := ?_) rfl (by kernel_rfl) (by kernel_rfl) (by kernel_rfl) (fun _ _ _ h => h) (fun _ => rfl) (Or.inl ⟨by kernel_rfl, ?_⟩) hS ?_
      rotate_left 1
      · intro w hS
        obtain ⟨d0, d1, d2, d3, d4⟩ := HFX5.out w hS
        go_simp
        all_goals with_reducible rfl
      try simp only [Act.put, List.setIfInBounds_toArray, List.set_cons_zero, List.set_cons_succ]
      refine wpAnyInH_take (i := 1) (v := ?_) rfl (by kernel_rfl) (by kernel_rfl) (by kernel_rfl) (fun _ _ _ h => h) (fun _ => rfl) (Or.inl ⟨by kernel_rfl, ?_⟩) hS ?_
      rotate_left 1
      · intro w hS
        obtain ⟨d0, d1, d2, d3, d4⟩ := HFX5.out w hS
        go_simp
        all_goals with_reducible rfl
      try simp only [Act.put, List.setIfInBounds_toArray, List.set_cons_zero, List.set_cons_succ]
      refine wpAnyInH_take (i := 2) (v := ?_) rfl (by kernel_rfl) (by kernel_rfl) (by kernel_rfl) (fun _ _ _ h => h) (fun _ => rfl) (Or.inl ⟨by kernel_rfl, ?_⟩) hS ?_
      rotate_left 1
      · intro w hS
        obtain ⟨d0, d1, d2, d3, d4⟩ := HFX5.out w hS
        go_simp
        all_goals with_reducible rfl
      try simp only [Act.put, List.setIfInBounds_toArray, List.set_cons_zero, List.set_cons_succ]
      refine wpAnyInH_take (i := 3) (v := ?_) rfl (by kernel_rfl) (by kernel_rfl) (by kernel_rfl) (fun _ _ _ h => h) (fun _ => rfl) (Or.inl ⟨by kernel_rfl, ?_⟩) hS ?_
      rotate_left 1
      · intro w hS
        obtain ⟨d0, d1, d2, d3, d4⟩ := HFX5.out w hS
        go_simp
        all_goals with_reducible rfl
      try simp only [Act.put, List.setIfInBounds_toArray, List.set_cons_zero, List.set_cons_succ]
      refine wpAnyInH_take (i := 4) (v := ?_) rfl (by kernel_rfl) (by kernel_rfl) (by kernel_rfl) (fun _ _ _ h => h) (fun _ => rfl) (Or.inl ⟨by kernel_rfl, ?_⟩) hS ?_
      rotate_left 1
      · intro w hS
        obtain ⟨d0, d1, d2, d3, d4⟩ := HFX5.out w hS
        go_simp
        all_goals with_reducible rfl
      try simp only [Act.put, List.setIfInBounds_toArray, List.set_cons_zero, List.set_cons_succ]
      refine wpAnyInH_take (i := 5) (v := ?_) rfl (by kernel_rfl) (by kernel_rfl) (by kernel_rfl) (fun _ _ _ h => h) (fun _ => rfl) (Or.inl ⟨by kernel_rfl, ?_⟩) hS ?_
      rotate_left 1
      · intro w hS
        obtain ⟨d0, d1, d2, d3, d4⟩ := HFX5.out w hS
        go_simp
        all_goals with_reducible rfl
      try simp only [Act.put, List.setIfInBounds_toArray, List.set_cons_zero, List.set_cons_succ]
      refine wpAnyInH_take (i := 6) (v := ?_) rfl (by kernel_rfl) (by kernel_rfl) (by kernel_rfl) (fun _ _ _ h => h) (fun _ => rfl) (Or.inl ⟨by kernel_rfl, ?_⟩) hS ?_
      rotate_left 1
      · intro w hS
        obtain ⟨d0, d1, d2, d3, d4⟩ := HFX5.out w hS
        go_simp
        all_goals with_reducible rfl
      try simp only [Act.put, List.setIfInBounds_toArray, List.set_cons_zero, List.set_cons_succ]
      refine wpAnyInH_take (i := 7) (v := ?_) rfl (by kernel_rfl) (by kernel_rfl) (by kernel_rfl) (fun _ _ _ h => h) (fun _ => rfl) (Or.inl ⟨by kernel_rfl, ?_⟩) hS ?_
      rotate_left 1
      · intro w hS
        obtain ⟨d0, d1, d2, d3, d4⟩ := HFX5.out w hS
        go_simp
        all_goals with_reducible rfl
      try simp only [Act.put, List.setIfInBounds_toArray, List.set_cons_zero, List.set_cons_succ]
      refine wpAnyInH_take (i := 8) (v := ?_) rfl (by kernel_rfl) (by kernel_rfl) (by kernel_rfl) (fun _ _ _ h => h) (fun _ => rfl) (Or.inl ⟨by kernel_rfl, ?_⟩) hS ?_
      rotate_left 1
      · intro w hS
        obtain ⟨d0, d1, d2, d3, d4⟩ := HFX5.out w hS
        go_simp
        all_goals with_reducible rfl
      try simp only [Act.put, List.setIfInBounds_toArray, List.set_cons_zero, List.set_cons_succ]
      refine wpAnyInH_take (i := 9) (v := ?_) rfl (by kernel_rfl) (by kernel_rfl) (by kernel_rfl) (fun _ _ _ h => h) (fun _ => rfl) (Or.inl ⟨by kernel_rfl, ?_⟩) hS ?_
      rotate_left 1
      · intro w hS
        obtain ⟨d0, d1, d2, d3, d4⟩ := HFX5.out w hS
        go_simp
        all_goals with_reducible rfl
      try simp only [Act.put, List.setIfInBounds_toArray, List.set_cons_zero, List.set_cons_succ]
      refine wpAnyInH_ready (rs := [10]) (by kernel_rfl) (by simp) ?_
      refine AllReadyInH.cons rfl (fun K hK => ?_) AllReadyInH.nil
      go_simp
      refine ⟨trivial, fun _ => by omega, (callsIn_wide.2 (HRD.out)).mono ?_⟩
      rintro e V ⟨v2, rfl, hrow2, hbV⟩
      refine hK.out _ _ (bl_step hS hbV) (fun hS => ?_)
      clear hK K
      try simp only [Act.put, List.setIfInBounds_toArray, List.set_cons_zero, List.set_cons_succ]
      have hVs : Below W5.heap.size W5 V := hS
      refine wpAnyInH_take (i := 11) (v := ?_) rfl (by kernel_rfl) (by kernel_rfl) (by kernel_rfl) (fun _ _ _ h => h) (fun _ => rfl) (Or.inl ⟨by kernel_rfl, ?_⟩) hS ?_
      rotate_left 1
      · intro w hS
        go_simp
        all_goals with_reducible rfl
      try simp only [Act.put, List.setIfInBounds_toArray, List.set_cons_zero, List.set_cons_succ]
      refine wpAnyInH_take (i := 12) (v := ?_) rfl (by kernel_rfl) (by kernel_rfl) (by kernel_rfl) (fun _ _ _ h => h) (fun _ => rfl) (Or.inl ⟨by kernel_rfl, ?_⟩) hS ?_
      rotate_left 1
      · intro w hS
        go_simp
        all_goals with_reducible rfl
      try simp only [Act.put, List.setIfInBounds_toArray, List.set_cons_zero, List.set_cons_succ]
      refine wpAnyInH_take (i := 13) (v := ?_) rfl (by kernel_rfl) (by kernel_rfl) (by kernel_rfl) (fun _ _ _ h => h) (fun _ => rfl) (Or.inl ⟨by kernel_rfl, ?_⟩) hS ?_
      rotate_left 1
      · intro w hS
        go_simp
        all_goals with_reducible rfl
      try simp only [Act.put, List.setIfInBounds_toArray, List.set_cons_zero, List.set_cons_succ]
      refine wpAnyInH_take (i := 14) (v := ?_) rfl (by kernel_rfl) (by kernel_rfl) (by kernel_rfl) (fun _ _ _ h => h) (fun _ => rfl) (Or.inl ⟨by kernel_rfl, ?_⟩) hS ?_
      rotate_left 1
      · intro w hS
        go_simp
        all_goals with_reducible rfl
      try simp only [Act.put, List.setIfInBounds_toArray, List.set_cons_zero, List.set_cons_succ]
      refine wpAnyInH_take (i := 15) (v := ?_) rfl (by kernel_rfl) (by kernel_rfl) (by kernel_rfl) (fun _ _ _ h => h) (fun _ => rfl) (Or.inl ⟨by kernel_rfl, ?_⟩) hS ?_
      rotate_left 1
      · intro w hS
        go_simp
        all_goals with_reducible rfl
      try simp only [Act.put, List.setIfInBounds_toArray, List.set_cons_zero, List.set_cons_succ]
      refine wpAnyInH_done (by kernel_rfl) ?_ _
      clear hS HRD HFX5
      have hIV := HI5.out.below HLN.out hVs
      obtain ⟨g2, cap2, cur2, rfl, hg2, hbk2, hcur2⟩ := row_open hrow2 HON.out.2.2.1
      obtain ⟨vo, hvo, hrowo⟩ := hIV.out
      have HIV := Lib.hid hIV
      have HVO := Lib.hid hvo
      have HRO := Lib.hid hrowo
      have HVS := Lib.hid (HB5.out.trans (hVs.mono HB5.out.size))
      have HCV := Lib.hid (show C ≤ V.heap.size from by have := HVS.out.size; omega)
      have HBL := Lib.hid (show (readK F m a k j).length ≤ 4096 from by
        rw [readK_len HOK.out HH.out.f.ok HYES.out j (by have := HJJ.out; omega)]
        have := frK_le a k j
        omega)
      rw [HPRE.out] at HRO HIV
      have o0 := hvo.cell 0
      simp only [List.getElem?_toArray, List.getElem?_cons_zero] at o0
      have ol := hvo.lt
      have HPL := Lib.hid (partB_len HH.out.f.ok fn of nn HON.out.2.1)
      have HNC := Lib.hid (show ∀ (i : Nat) (u : Value), ((partB F fn of nn).map fun x => Value.int .u8 x)[i]? = some u → V.cell? ((⟨g2, 0, none⟩ : Addr).add i) = some u from fun i u hu => by
        have e : (⟨g2, 0, none⟩ : Addr).add i = ⟨g2, i, none⟩ := by unfold Addr.add; split <;> simp_all
        rw [e, hbk2.cell]
        exact hcur2 i u hu)
      clear hVs hrow2 hbk2 hcur2 hIV hvo hrowo hg2
      gi_wp2_with (gi_at_builtin; refine wpListIn_append_own _ rfl _ _ 50 rfl C 5 i0 _ 1 1 Try.underlying50 hi hz0 hz1 hz2 rfl (by decide) vo _ _ rfl HRO.out ⟨g2, 0, none⟩ nn cap2 ((partB F fn of nn).map fun x => Value.int .u8 x) rfl (by rw [List.length_map, HPL.out]; omega) HNC.out (by intro u hu; rw [List.mem_map] at hu; obtain ⟨y, _, rfl⟩ := hu; rfl) (by unfold maxLen; have := HBL.out; have := HON.out; omega) (by have := HBL.out; have := HON.out; omega) HCV.out ?_; intro v' w9 hown9 hgrow9 _; obtain ⟨g9, cap9, _, rfl, _, _, _⟩ := row_open hown9 (by have := HON.out; omega); obtain ⟨hq1, hq2, hq3⟩ := RI.more HIV.out HVO.out HRO.out hgrow9 HCV.out ⟨HSN.out, hC1'⟩ HVS.out hown9 HPL.out; have HQ1 := Lib.hid hq1; have HQ2 := Lib.hid hq2; have o9 := hq3.cell 0; simp only [List.getElem?_toArray, List.getElem?_cons_zero] at o9; have g9 := hq3.frozen 0; have l9 := hq3.lt; clear hq1 hq2 hq3 hown9 hgrow9)
      show leftP _ _ _ _ _ _ .normal _ _
      refine ⟨HQ1.out.1, HQ1.out.2, ?_⟩
      show RI w w.heap.size N0 sb C (readK F m a k (pre ++ [(⟨pg, of, fr, nn⟩ : Pc)]).length) _
      rw [List.length_append, HPRE.out]
      show RI w w.heap.size N0 sb C (readK F m a k (j + 1)) _
      rw [HRK.out]
      exact HQ2.out
  case done =>
    rintro D C xs W hD hC rfl hI hK
    obtain ⟨v, hv, hrow⟩ := hI.out
    have HLO := Lib.hid hI.lo
    have HRW := Lib.hid hrow
    have c10 := hv.cell 0
    simp only [List.getElem?_toArray, List.getElem?_cons_zero] at c10
    have l10 := hv.lt
    clear hI hv hrow
    obtain ⟨va, vn, vc, rfl⟩ : ∃ va vn vc, v = .slice va vn vc := by
      rcases HRW.out.2 with ⟨h1, _⟩ | ⟨_, _, _, h1, _⟩
      · exact ⟨_, _, _, h1⟩
      · exact ⟨_, _, _, h1⟩
    gi_wp2
    refine ⟨by simp, .inl ⟨_, _, rfl, run_takeDeferred hK, ?_⟩⟩
    refine ⟨_, results_tmp2 rfl _ _ _, _, rfl, ?_, HLO.out.trans (belowK_b (w := w) (Nat.le_refl _) W D _ _ (by omega) hK rfl rfl)⟩
    have hrw := HRW.out
    unfold pcs at hrw
    rw [pcN_len] at hrw
    have hlen := readK_len HOK.out HH.out.f.ok HYES.out (pcJ a k) (Nat.le_refl _)
    have h1 := pcJ_iff a k (pcJ a k)
    have h2 := frK_le a k (pcJ a k)
    rw [hlen, show frK a k (pcJ a k) = k by omega] at hrw
    exact (ownsRow_putObj hrw _ hK rfl).mono (by omega)
theorem spRead_yes (h : FS w fb lb cap F sb bt q m) (hok : SpOk F m) (a k : Nat) (ha : a < 4294967296) (hk : k ≤ 4096) (hO : okK m a false (pcJ a k)) :
    Calls Try.prog 32 #[.pointer (some ⟨sb, 0, none⟩), .int .u32 a, .int .i64 k] w fun e w' =>
      ∃ v, e = .returned (.tuple #[v, .int .i64 0]) ∧ w'.ownsRow w.heap.size 5 1 v k ((readB F m a k).map fun x => Value.int .u8 x) ∧ Below w.heap.size w w' :=
  callsIn_wide.1 (spRead_in 12 (by omega) h hok a k ha hk hO)
theorem spRead_no (h : FS w fb lb cap F sb bt q m) (hok : SpOk F m) (a k : Nat) (ha : a < 4294967296) (hk : k ≤ 4096) (hO : ¬ okK m a false (pcJ a k)) :
    Calls Try.prog 32 #[.pointer (some ⟨sb, 0, none⟩), .int .u32 a, .int .i64 k] w fun e w' => e = .returned (.tuple #[.slice none 0 0, .int .i64 14]) ∧ Below w.heap.size w w' :=
  callsIn_wide.1 (spRead_no_in 12 (by omega) h hok a k ha hk hO)
end
end Go.Proofs.Ytlecfdchmcghlaa
