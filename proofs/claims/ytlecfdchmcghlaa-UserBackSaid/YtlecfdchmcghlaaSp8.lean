/-
  may of spaces: which addresses lie in pages that are mapped, and how many frames a write needs. Condition: the space and the frames lie in blocks of their own; each page's frame is used, and of that page alone within the space.
-/
import Derived.Maps.OwnIn
import Derived.Test.YtlecfdchmcghlaaSp7
namespace Go.Proofs.Ytlecfdchmcghlaa
open Go.RowKit Go.Shelf
set_option linter.unusedVariables false
set_option linter.unusedSimpArgs false
attribute [local go_sem] Oper.semAt_some

/-- Temporaries that are set. -/
def setL (T : Array Value) : List (Nat × Value) → Array Value
  | [] => T
  | (i, v) :: l => setL (T.setIfInBounds i v) l
theorem region_then {Fe : Fence} {n : Nat} {P : Program} {c : Code} {Q : Exit → Act → World → Prop} {T : Array Value} {W : World} (G : Array Value → Act → World → Prop)
    (h : c.wpIn Fe n P (Exit.then (G T) (fun _ _ _ => False)) ⟨T, []⟩ W) (hG : ∀ a w, G T a w → Q .normal a w) : c.wpIn Fe n P Q ⟨T, []⟩ W :=
  wpIn_mono h fun e a w hh => by
    cases e with
    | normal => exact hG _ _ hh
    | _ => exact hh.elim
/-- The law for an iterator's caller, where each round's variables are boxed: what the assign code leaves is told by the temporaries that it sets. -/
theorem wpIn_rangeFunc_PA {F : Fence} {n : Nat} {P : Program} {w : World} {α : Type} {g : Operand} {ps : Array Tmp} {assign body : Code} {Q : Exit → Act → World → Prop} {a : Act}
    (hro : F.round = none) (h1 : 1 ≤ n) {gf : Nat} {lb : Array Value} (hg : a.eval g = .func (.func gf) #[] lb) (hFg : F.fn gf) (eg : ∀ args w, (callFunc gf args).run P w = .ok (.enter gf args) w)
    {encs : α → Array Value} {Rr : List α → α → Prop} {Kp : World → World → Prop} {S Sp : List α → Prop} {N : Nat}
    (hseq : ∀ W, Below w.heap.size w W → W.heap.size = w.heap.size + 2 → SeqP F (n - 1) P gf lb encs (fun _ _ => True) Rr Kp S Sp N (w.heap.size + 1) W)
    (hKt : ∀ {A B C : World}, Kp A B → Kp B C → Kp A C) (hKb : ∀ (W : World) (r : Loop) (o' : Obj), W.heap[w.heap.size + 1]? = some (.loop r) → Kp W (W.putObj (w.heap.size + 1) o')) (hps : ∀ x, (encs x).size = ps.size)
    (B : Nat) (hB : w.heap.size = B) (I : List α → World → Prop) (Ix : Code → List α → World → Prop) (hIs : ∀ s W, I s W → B ≤ W.heap.size) (hI : ∀ s W W', I s W → Below B W W' → I s W') (hIxs : ∀ c s W, Ix c s W → B ≤ W.heap.size) (hIx : ∀ c s W W', Ix c s W → Below B W W' → Ix c s W') (h0 : I [] w)
    (bt : TypeId) (bc : α → Array Value) (fs : α → Nat → List (Nat × Value))
    (hassign : ∀ (l : Nat) (pre : List α) (x : α) (W : World) (K : Act → World → Prop), I pre W → Rr pre x → (∀ a' W', KeepsFrom B W W' → Kp W W' → I pre W' → True → (∃ b, B ≤ b ∧ Blk W' b bt (bc x) ∧ a' = ⟨setL a.tmps (fs x b), []⟩) → K a' W') →
      assign.wpIn (F.inRound l) (n - 1 - 1) P (Exit.then K (fun _ _ _ => False)) { tmps := (ps.zip (encs x)).foldl (fun t (p, v) => t.setIfInBounds p v) a.tmps, defers := [] } W)
    (hbody : ∀ (l : Nat) (pre : List α) (x : α) (b : Nat) (W : World), B ≤ l → (∃ r, W.heap[l]? = some (.loop r)) → I pre W → Rr pre x → B ≤ b → Blk W b bt (bc x) → pre.length < N → body.wpIn (F.inRound l) (n - 1 - 1) P (leftP B Kp I Ix (pre ++ [x]) W) ⟨setL a.tmps (fs x b), []⟩ W)
    (hdone : ∀ (D : Nat) (xs : List α) (W : World), B ≤ D → S xs → I xs W → W.heap[D]? = some (.deferred (some [])) → Q .normal { a with defers := { target := .collected D, args := #[] } :: a.defers } W)
    (hstop : ∀ (D : Nat) (c : Code) (pre : List α) (W : World), B ≤ D → Sp pre → Ix c pre W → W.heap[D]? = some (.deferred (some [])) → c.wpIn F n P Q { a with defers := { target := .collected D, args := #[] } :: a.defers } W) :
    (Code.rangeFunc g ps assign body).wpIn F n P Q a w := by
  subst hB
  exact wpIn_rangeFunc_P hro h1 hg hFg eg hseq hKt hKb hps (fun _ _ _ _ _ _ _ _ => trivial) (fun _ => I) (fun _ => Ix) (fun _ => PrivP.of_below hIs hI) (fun _ c => PrivP.of_below (hIxs c) (hIx c)) (fun _ => h0)
    (fun x a' W => ∃ b, w.heap.size ≤ b ∧ Blk W b bt (bc x) ∧ a' = ⟨setL a.tmps (fs x b), []⟩)
    (fun x a' _ X Y row hs hg hr => by obtain ⟨b, g1, g2, g3⟩ := hs; exact ⟨b, g1, blk_own b bt (fun (_ : Unit) => bc x) () X Y row g2 hg (fun r e => (hr r e).2), g3⟩)
    (fun l C pre x W K _ _ hi _ hr hK => hassign l pre x W K hi hr hK)
    (fun l C pre x a' W hl hr _ _ hi _ hR hax hlen => by obtain ⟨b, g1, g2, rfl⟩ := hax; exact hbody l pre x b W hl hr hi hR g1 g2 hlen)
    (fun D C xs W hD _ hS hi hk => hdone D xs W hD hS hi hk) (fun D C c pre W hD _ hS hi hk => hstop D c pre W hD hS hi hk)
/-- Each page's frame is used, and of that page alone. -/
structure SpOk (F : Fs) (m : M) : Prop where
  used : ∀ p x, p < 64 → m p = some x → ∃ f : Nat, x.f = f ∧ f < F.n ∧ F.r f ≠ 0
  one : ∀ p p' x y, p < 64 → p' < 64 → m p = some x → m p' = some y → x.f = y.f → p = p'
/-- The first k pages from a's on are mapped, and Write, if they have to be. -/
def okK (m : M) (a : Nat) (wr : Bool) (k : Nat) : Prop := ∀ j, j < k → ∃ x, look m ((a / 64 + j : Nat) : Int) = some x ∧ (wr = true → x.w = true)
/-- How many of the first k pages want a frame of their own. -/
def needK (F : Fs) (m : M) (a : Nat) : Nat → Nat
  | 0 => 0
  | k + 1 => needK F m a k + (match look m ((a / 64 + k : Nat) : Int) with
    | some x => if x.c = true ∧ 1 < refsI F x.f then 1 else 0
    | none => 0)
theorem needK_le (F : Fs) (m : M) (a : Nat) : ∀ k, needK F m a k ≤ k
  | 0 => Nat.le_refl _
  | k + 1 => by
    have := needK_le F m a k
    rw [needK]
    split
    · split <;> omega
    · omega
theorem KeepsFrom.of_but {S : Nat → Prop} {B : Nat} {A W : World} (h : But S A W) (hS : ∀ k, S k → k < B) : KeepsFrom B A W :=
  ⟨h.size, fun k o hk ho _ => (h.block k (Array.getElem?_eq_some_iff.1 ho).1 (fun hs => by have := hS k hs; omega)).trans ho⟩
theorem keyI : Maps.Keyed Try.prog 3 := Maps.int_keyed Try.underlying3
theorem zeroI (w : World) : (zeroValue 3).run Try.prog w = .ok (.int .i64 0) w := by kernel_rfl
/-- What lies while may goes through pieces. -/
structure MI (w : World) (S0 sb a : Nat) (m : M) (wr : Bool) (k nd cb : Nat) (W : World) : Prop where
  bs : Blk W S0 24 #[.pointer (some ⟨sb, 0, none⟩)]
  bw : Blk W (S0 + 1) 4 #[.bool wr]
  bn : Blk W (S0 + 2) 3 #[.int .i64 (nd : Nat)]
  bm : Blk W (S0 + 4) 120 #[.map (some (S0 + 3))]
  bf : Blk W (S0 + 5) 4 #[.bool true]
  mp : ∃ c, ∃ D : DataW Unit, c ≤ cb ∧ W.ownsMap Try.prog 3 (plainElem Try.prog 3) (S0 + 3) c D ∧ ∀ f : Int, Maps.has D (.int .i64 f) = true → ∃ j x, j < k ∧ look m ((a / 64 + j : Nat) : Int) = some x ∧ x.f = f
  lo : Below S0 w W
  sz : S0 + 8 ≤ W.heap.size
  ok : okK m a wr k
/-- At this key the map has this number. -/
def MapV (W : World) (mb : Nat) (f r : Int) : Prop := ∃ c, ∃ D : DataW Unit, W.ownsMap Try.prog 3 (plainElem Try.prog 3) mb c D ∧ D.atKey (.int .i64 f) (.lit (.int .i64 0)) = .lit (.int .i64 r)
section
variable {w W W' : World} {S0 sb a : Nat} {m : M} {wr : Bool} {k nd cb : Nat}
theorem ownsMap_below {mb c B : Nat} {D : DataW Unit} (h : W.ownsMap Try.prog 3 (plainElem Try.prog 3) mb c D) (hb : Below B W W') (hB : mb < B) : W'.ownsMap Try.prog 3 (plainElem Try.prog 3) mb c D := by
  obtain ⟨es, clock, hb1, hrest⟩ := h
  exact ⟨es, clock, (hb.block _ hB).trans hb1, hrest⟩
theorem MI.below (h : MI w S0 sb a m wr k nd cb W) (hb : Below (S0 + 8) W W') : MI w S0 sb a m wr k nd cb W' := by
  have hz := h.sz
  obtain ⟨c, D, h1, h2, h3⟩ := h.mp
  exact ⟨h.bs.below hb (by omega), h.bw.below hb (by omega), h.bn.below hb (by omega), h.bm.below hb (by omega), h.bf.below hb (by omega), ⟨c, D, h1, ownsMap_below h2 hb (by omega), h3⟩, h.lo.trans (hb.mono (by omega)), Nat.le_trans h.sz hb.size, h.ok⟩
theorem MI.mono (h : MI w S0 sb a m wr k nd cb W) {cb' : Nat} (hc : cb ≤ cb') : MI w S0 sb a m wr k nd cb' W := by
  obtain ⟨c, D, h1, h2, h3⟩ := h.mp
  exact ⟨h.bs, h.bw, h.bn, h.bm, h.bf, ⟨c, D, Nat.le_trans h1 hc, h2, h3⟩, h.lo, h.sz, h.ok⟩
theorem MI.fine (h : MI w S0 sb a m wr k nd cb W) : MI w S0 sb a m wr k nd cb (W.setCell ⟨S0 + 5, 0, none⟩ (.bool true)) := by
  obtain ⟨c, D, h1, h2, h3⟩ := h.mp
  exact ⟨h.bs.far (by show S0 ≠ S0 + 5; omega) _, h.bw.far (by show S0 + 1 ≠ S0 + 5; omega) _, h.bn.far (by show S0 + 2 ≠ S0 + 5; omega) _, h.bm.far (by show S0 + 4 ≠ S0 + 5; omega) _, h.bf.set_ 0 _, ⟨c, D, h1, h2.setCell (by show S0 + 3 ≠ S0 + 5; omega) _, h3⟩, h.lo.setCell (by show S0 ≤ S0 + 5; omega) _, by simpa [World.setCell] using h.sz, h.ok⟩
theorem MI.need (h : MI w S0 sb a m wr k nd cb W) (nd' : Nat) : MI w S0 sb a m wr k nd' cb (W.setCell ⟨S0 + 2, 0, none⟩ (.int .i64 (nd' : Nat))) := by
  obtain ⟨c, D, h1, h2, h3⟩ := h.mp
  exact ⟨h.bs.far (by show S0 ≠ S0 + 2; omega) _, h.bw.far (by show S0 + 1 ≠ S0 + 2; omega) _, h.bn.set_ 0 _, h.bm.far (by show S0 + 4 ≠ S0 + 2; omega) _, h.bf.far (by show S0 + 5 ≠ S0 + 2; omega) _, ⟨c, D, h1, h2.setCell (by show S0 + 3 ≠ S0 + 2; omega) _, h3⟩, h.lo.setCell (by show S0 ≤ S0 + 2; omega) _, by simpa [World.setCell] using h.sz, h.ok⟩
theorem key_of {f : Int} (hf : 0 ≤ f ∧ f < 256) : keyOf Try.prog 3 (.int .i64 f) = some (.int .i64 f) := Maps.keyOf_int_mk Try.underlying3 (WalkArith.wf_i64 (by omega))
theorem MI.none_ (h : MI w S0 sb a m wr k nd cb W) {f : Int} (hf : 0 ≤ f ∧ f < 256) (hno : ∀ j x, j < k → look m ((a / 64 + j : Nat) : Int) = some x → x.f ≠ f) :
    ∃ v : Int, (Instr.lookup 120 (.map (some (S0 + 3))) (.int .i64 f) true).run Try.prog W = .ok (.tuple #[.int .i64 v, .bool false]) W := by
  obtain ⟨c, D, h1, h2, h3⟩ := h.mp
  obtain ⟨v, ps, hrun, hv⟩ := h2.look_ok keyI Try.underlying120 (zeroI W) (plainElem_int Try.underlying3 (q := .i64) (a := 0) (by decide)) (key_of hf)
  obtain ⟨v, rfl, _, _⟩ := plainElem_int_inv Try.underlying3 hv
  refine ⟨v, ?_⟩
  rw [hrun]
  cases hh : Maps.has D (.int .i64 f) with
  | false => rfl
  | true =>
    obtain ⟨j, x, g1, g2, g3⟩ := h3 f hh
    exact absurd g3 (hno j x g1 g2)
theorem MapV.run {mb : Nat} {f r : Int} (h : MapV W mb f r) (hf : 0 ≤ f ∧ f < 256) : (Instr.lookup 120 (.map (some mb)) (.int .i64 f) false).run Try.prog W = .ok (.int .i64 r) W := by
  obtain ⟨c, D, h1, h2⟩ := h
  obtain ⟨v, hrun, hat, _⟩ := h1.lookup_int keyI Try.underlying120 Try.underlying3 (zeroI W) (key_of hf)
  rw [h2] at hat
  simp only [DataW.lit.injEq, Lit.int.injEq, true_and] at hat
  rw [hrun, hat]
theorem MapV.need {mb : Nat} {f r : Int} (h : MapV W mb f r) {p : Addr} (hp : mb ≠ p.block) (u : Value) : MapV (W.setCell p u) mb f r := by
  obtain ⟨c, D, h1, h2⟩ := h
  exact ⟨c, D, h1.setCell hp u, h2⟩
theorem MI.put (h : MI w S0 sb a m wr k nd cb W) (hcb : cb < 1000) {f : Int} (hf : 0 ≤ f ∧ f < 256) (r : Int) (hr : -5 ≤ r ∧ r ≤ 1000000) {j k' : Nat} {x : E} (hj : j < k') (hx : look m ((a / 64 + j : Nat) : Int) = some x) (hxf : x.f = f) (hkk : k ≤ k') (hok : okK m a wr k') :
    ∃ W', (Instr.mapUpdate 120 (.map (some (S0 + 3))) (.int .i64 f) (.int .i64 r)).run Try.prog W = .ok () W' ∧ MI w S0 sb a m wr k' nd (cb + 1) W' ∧ W.grownBy W' (some (S0 + 3)) ∧ MapV W' (S0 + 3) f r := by
  obtain ⟨c, D, h1, h2, h3⟩ := h.mp
  obtain ⟨W', hrun, hown, hg⟩ := h2.update keyI Try.underlying120 (by unfold maxLen; omega) (key_of hf) (plainElem_int Try.underlying3 (q := .i64) (a := r) (WalkArith.wf_i64 (by omega)))
  have hn : ∀ i, i ≠ S0 + 3 → some i ≠ some (S0 + 3) := fun i hi e => hi (by injection e)
  have hI := h2.isMap
  refine ⟨W', hrun, ⟨h.bs.grown hg (hn _ (by omega)), h.bw.grown hg (hn _ (by omega)), h.bn.grown hg (hn _ (by omega)), h.bm.grown hg (hn _ (by omega)), h.bf.grown hg (hn _ (by omega)), ⟨c + 1, _, by omega, hown, fun f' hf' => ?_⟩,
    h.lo.grown hg (by have := h.sz; omega) (fun i e => by injection e with e; omega), Nat.le_trans h.sz hg.size, hok⟩, hg, ⟨_, _, hown, Maps.atKey_put_same (k := .int .i64 f) hI (by trivial) _ _⟩⟩
  by_cases hff : f' = f
  · subst hff
    exact ⟨j, x, hj, hx, hxf⟩
  · have hk' : (Lit.int .i64 f') ≠ Lit.int .i64 f := fun e => by simp only [Lit.int.injEq, true_and] at e; exact hff e
    rw [Maps.has_put_other hk'] at hf'
    obtain ⟨j', x', g1, g2, g3⟩ := h3 f' hf'
    exact ⟨j', x', by omega, g2, g3⟩
end
/-- The world in which the loop begins. -/
def wMay (W1 : World) (mb : Nat) (a k : Int) : World :=
  (((((W1.alloc (.cells #[.int .i64 0] 3)).alloc (.map #[] 0)).alloc (.cells #[.map (some mb)] 120)).alloc (.cells #[.bool true] 4)).alloc (.cells #[.int .u32 a] 26)).alloc (.cells #[.int .i64 k] 3)
theorem mi_start {w W1 : World} {S0 sb a : Nat} {m : M} {wr : Bool} (x k : Int) (hs : W1.heap.size = S0 + 2) (x4 : Blk W1 S0 24 #[.pointer (some ⟨sb, 0, none⟩)]) (x7 : Blk W1 (S0 + 1) 4 #[.bool wr]) (lo : Below S0 w W1) :
    MI w S0 sb a m wr 0 0 0 (wMay W1 (S0 + 3) x k) ∧ Blk (wMay W1 (S0 + 3) x k) (S0 + 6) 26 #[.int .u32 x] ∧ Blk (wMay W1 (S0 + 3) x k) (S0 + 7) 3 #[.int .i64 k] ∧ (wMay W1 (S0 + 3) x k).heap.size = S0 + 8 := by
  unfold wMay
  have n2 := Blk.new W1 3 #[.int .i64 0]
  have s2 : (W1.alloc (.cells #[.int .i64 0] 3)).heap.size = S0 + 3 := by rw [World.size_alloc, hs]
  have b2 := lo.alloc (show S0 ≤ W1.heap.size by omega) (.cells #[.int .i64 0] 3)
  rw [hs] at n2
  have y4 := x4.alloc (.cells #[.int .i64 0] 3)
  have y7 := x7.alloc (.cells #[.int .i64 0] 3)
  generalize W1.alloc (.cells #[.int .i64 0] 3) = W2 at *
  have n3 := World.ownsMap_made W2 Try.prog 3 (plainElem (H := Unit) Try.prog 3)
  have s3 : (W2.alloc (.map #[] 0)).heap.size = S0 + 4 := by rw [World.size_alloc, s2]
  rw [s2] at n3
  have b3 := b2.alloc (show S0 ≤ W2.heap.size by omega) (.map #[] 0)
  replace y4 := y4.alloc (.map #[] 0)
  replace y7 := y7.alloc (.map #[] 0)
  replace n2 := n2.alloc (.map #[] 0)
  generalize W2.alloc (.map #[] 0) = W3 at *
  have n4 := Blk.new W3 120 #[.map (some (S0 + 3))]
  rw [s3] at n4
  have s4 : (W3.alloc (.cells #[.map (some (S0 + 3))] 120)).heap.size = S0 + 5 := by rw [World.size_alloc, s3]
  have b4 := b3.alloc (show S0 ≤ W3.heap.size by omega) (.cells #[.map (some (S0 + 3))] 120)
  replace y4 := y4.alloc (.cells #[.map (some (S0 + 3))] 120)
  replace y7 := y7.alloc (.cells #[.map (some (S0 + 3))] 120)
  replace n2 := n2.alloc (.cells #[.map (some (S0 + 3))] 120)
  replace n3 := n3.alloc (.cells #[.map (some (S0 + 3))] 120)
  generalize W3.alloc (.cells #[.map (some (S0 + 3))] 120) = W4 at *
  have n5 := Blk.new W4 4 #[.bool true]
  rw [s4] at n5
  have s5 : (W4.alloc (.cells #[.bool true] 4)).heap.size = S0 + 6 := by rw [World.size_alloc, s4]
  have b5 := b4.alloc (show S0 ≤ W4.heap.size by omega) (.cells #[.bool true] 4)
  replace y4 := y4.alloc (.cells #[.bool true] 4)
  replace y7 := y7.alloc (.cells #[.bool true] 4)
  replace n2 := n2.alloc (.cells #[.bool true] 4)
  replace n3 := n3.alloc (.cells #[.bool true] 4)
  replace n4 := n4.alloc (.cells #[.bool true] 4)
  generalize W4.alloc (.cells #[.bool true] 4) = W5 at *
  have n6 := Blk.new W5 26 #[.int .u32 x]
  rw [s5] at n6
  have s6 : (W5.alloc (.cells #[.int .u32 x] 26)).heap.size = S0 + 7 := by rw [World.size_alloc, s5]
  have b6 := b5.alloc (show S0 ≤ W5.heap.size by omega) (.cells #[.int .u32 x] 26)
  replace y4 := y4.alloc (.cells #[.int .u32 x] 26)
  replace y7 := y7.alloc (.cells #[.int .u32 x] 26)
  replace n2 := n2.alloc (.cells #[.int .u32 x] 26)
  replace n3 := n3.alloc (.cells #[.int .u32 x] 26)
  replace n4 := n4.alloc (.cells #[.int .u32 x] 26)
  replace n5 := n5.alloc (.cells #[.int .u32 x] 26)
  generalize W5.alloc (.cells #[.int .u32 x] 26) = W6 at *
  have n7 := Blk.new W6 3 #[.int .i64 k]
  rw [s6] at n7
  refine ⟨⟨y4.alloc _, y7.alloc _, n2.alloc _, n4.alloc _, n5.alloc _, ⟨0, _, Nat.le_refl _, n3.alloc _, fun f hf => by cases hf⟩, ?_, by rw [World.size_alloc, s6]; omega, fun j hj => absurd hj (Nat.not_lt_zero _)⟩, n6.alloc _, n7, by rw [World.size_alloc, s6]⟩
  · exact b6.alloc (by omega) _
section
variable {w : World} {fb lb cap : Nat} {F : Fs} {sb bt : Nat} {q : Nat → Option Nat} {m : M}
set_option maxRecDepth 100000 in
set_option maxHeartbeats 2000000 in
theorem spMay_out_in (k : Nat) (hk : 6 ≤ k) (h : FS w fb lb cap F sb bt q m) (a n : Int) (wr : Bool) (hn : n < 0 ∨ 4096 < n) :
    CallsIn Fence.wide k Try.prog 35 #[.pointer (some ⟨sb, 0, none⟩), .int .u32 a, .int .i64 n, .bool wr] w fun e w' => e = .returned (.tuple #[.int .i64 0, .bool false]) ∧ Below w.heap.size w w' := by
  have HN := Lib.hid (fun W hb => spNone_any (h.below (W := W) hb).s)
  clear h
  have hb1 := bl_new (bl_new (Below.refl w.heap.size w) (.cells #[.pointer (some ⟨sb, 0, none⟩)] 24)) (.cells #[.bool wr] 4)
  have x4 := (Blk.new w 24 #[.pointer (some ⟨sb, 0, none⟩)]).alloc (.cells #[.bool wr] 4)
  have HB1 := Lib.hid hb1
  have c4 := x4.cell 0
  simp only [List.getElem?_toArray, List.getElem?_cons_zero] at c4
  have l4 := x4.lt
  clear hb1 x4
  rcases hn with hn | hn
  · refine callsIn_of_wp Try.func35 rfl trivial ?_ rfl
    simp only [Try.ntmps35, List.size_toArray, List.length_cons, List.length_nil, Nat.reduceAdd, Nat.reduceSub, Array.replicate_succ, Array.replicate_zero, List.push_toArray, List.append_toArray, List.nil_append, List.cons_append]
    gi_wp2_with (fail)
    generalize ((w.alloc (.cells #[.pointer (some ⟨sb, 0, none⟩)] 24)).alloc (.cells #[.bool wr] 4)) = W1 at *
    refine wpIn_scope_straight ?_
    gi_wp2_with (refine ⟨trivial, fun _ => by omega, ?_⟩; gi_at_call 23; refine (callsIn_wide.2 (HN.out _ HB1.out)).mono ?_; rintro e w' ⟨rfl, rfl⟩)
    try rw [Exit.noGoto_ret]
    go_ret2
    exact ⟨rfl, HB1.out⟩
  · have hn2 : ¬ n < 0 := by omega
    refine callsIn_of_wp Try.func35 rfl trivial ?_ rfl
    simp only [Try.ntmps35, List.size_toArray, List.length_cons, List.length_nil, Nat.reduceAdd, Nat.reduceSub, Array.replicate_succ, Array.replicate_zero, List.push_toArray, List.append_toArray, List.nil_append, List.cons_append]
    gi_wp2_with (fail)
    generalize ((w.alloc (.cells #[.pointer (some ⟨sb, 0, none⟩)] 24)).alloc (.cells #[.bool wr] 4)) = W1 at *
    refine wpIn_scope_straight ?_
    gi_wp2_with (refine ⟨trivial, fun _ => by omega, ?_⟩; gi_at_call 23; refine (callsIn_wide.2 (HN.out _ HB1.out)).mono ?_; rintro e w' ⟨rfl, rfl⟩)
    try rw [Exit.noGoto_ret]
    go_ret2
    exact ⟨rfl, HB1.out⟩
set_option maxRecDepth 100000 in
set_option maxHeartbeats 2000000 in
theorem spMay_in (n : Nat) (hn : 6 ≤ n) (h : FS w fb lb cap F sb bt q m) (hok : SpOk F m) (a k : Nat) (wr : Bool) (ha : a < 4294967296) (hk : k ≤ 4096) :
    CallsIn Fence.wide n Try.prog 35 #[.pointer (some ⟨sb, 0, none⟩), .int .u32 a, .int .i64 k, .bool wr] w fun e w' =>
      ((∃ v, e = .returned (.tuple #[.int .i64 v, .bool false]) ∧ ¬ okK m a wr (pcJ a k)) ∨ (e = .returned (.tuple #[.int .i64 (needK F m a (pcJ a k) : Nat), .bool true]) ∧ okK m a wr (pcJ a k))) ∧ Below w.heap.size w w' := by
  have h1 : 1 ≤ n := by omega
  have HN := Lib.hid (fun W hb => spNone_any (h.below (W := W) hb).s)
  have HH := Lib.hid h
  have HOK := Lib.hid hok
  have hk0 : ¬ (k : Int) < 0 := by omega
  have hk1 : ¬ (4096 : Int) < (k : Int) := by omega
  clear h hok
  refine callsIn_of_wp_marks Try.func35 rfl trivial ?_ rfl
  simp only [Try.ntmps35, List.size_toArray, List.length_cons, List.length_nil, Nat.reduceAdd, Nat.reduceSub, Array.replicate_succ, Array.replicate_zero, List.push_toArray, List.append_toArray, List.nil_append, List.cons_append]
  have x4 := (Blk.new w 24 #[.pointer (some ⟨sb, 0, none⟩)]).alloc (.cells #[.bool wr] 4)
  have x7 := Blk.new (w.alloc (.cells #[.pointer (some ⟨sb, 0, none⟩)] 24)) 4 #[.bool wr]
  rw [World.size_alloc] at x7
  have hb1 := bl_new (bl_new (Below.refl w.heap.size w) (.cells #[.pointer (some ⟨sb, 0, none⟩)] 24)) (.cells #[.bool wr] 4)
  have hs1 : ((w.alloc (.cells #[.pointer (some ⟨sb, 0, none⟩)] 24)).alloc (.cells #[.bool wr] 4)).heap.size = w.heap.size + 2 := by simp
  gi_wp2_with (fail)
  generalize ((w.alloc (.cells #[.pointer (some ⟨sb, 0, none⟩)] 24)).alloc (.cells #[.bool wr] 4)) = W1 at *
  have HB1 := Lib.hid hb1
  have HX4 := Lib.hid x4
  have HX7 := Lib.hid x7
  have c4 := x4.cell 0
  simp only [List.getElem?_toArray, List.getElem?_cons_zero] at c4
  have l4 := x4.lt
  clear hb1 x4 x7
  have hmm := @run_makeMap Try.prog
  refine wpIn_scope_straight ?_
  gi_wp2_with (refine ⟨trivial, ?_⟩; gi_at_call 23; refine (callsIn_wide.2 (HN.out _ HB1.out)).mono ?_; rintro e w' ⟨rfl, rfl⟩)
  refine wpIn_label ?_
  gi_wp2_with (refine ⟨trivial, ?_⟩; gi_at_call 36; refine (pieces_in (n - 1) _ _ _).mono ?_; rintro e w' ⟨rfl, rfl⟩)
  simp only [Nat.add_assoc, Nat.reduceAdd]
  obtain ⟨MI0, ba, bn, hs8⟩ := mi_start (w := w) (S0 := w.heap.size) (a := a) (m := m) a k hs1 HX4.out HX7.out HB1.out
  obtain ⟨W2, hW2⟩ : ∃ W2, wMay W1 (w.heap.size + 3) a k = W2 := ⟨_, rfl⟩
  rw [hW2] at MI0 ba bn hs8
  unfold wMay at hW2
  rw [hW2]
  clear hW2 HB1 HX4 HX7 c4 l4 hs1 hmm
  refine wpIn_rangeFunc_PA rfl h1 (gf := 57) (lb := #[.pointer (some ⟨w.heap.size + 7, 0, none⟩), .pointer (some ⟨w.heap.size + 6, 0, none⟩)]) rfl trivial (enters_of Try.func57 (by kernel_rfl) rfl)
    (fun W hb hs => pieces_seq (n - 1) (by omega) _ (w.heap.size + 6) (w.heap.size + 7) (w.heap.size + 6) a k ha hk W (bn.below hb bn.lt) (ba.below hb ba.lt) (by omega) (by omega))
    kpP_t (fun W r o' hl => kpP_b (w := W2) W _ _ o' (by omega) hl rfl rfl) (fun _ => rfl) (w.heap.size + 8) hs8
    (fun pre W => MI w w.heap.size sb a m wr pre.length (needK F m a pre.length) (2 * pre.length) W) (fun c pre W => (c = .exit 0 ∧ w.heap.size + 8 ≤ W.heap.size ∧ Below w.heap.size w W ∧ (∃ v, Blk W (w.heap.size + 2) 3 #[.int .i64 v]) ∧ Blk W (w.heap.size + 5) 4 #[.bool false]) ∧ ¬ okK m a wr pre.length)
    (fun s W h => h.sz) (fun s W W' h hb => h.below hb) (fun c s W h => h.1.2.1) (fun c s W W' h hb => by
      obtain ⟨⟨e1, e2, e3, ⟨v, e4⟩, e5⟩, e6⟩ := h
      exact ⟨⟨e1, Nat.le_trans e2 hb.size, e3.trans (hb.mono (by omega)), ⟨v, e4.below hb (by omega)⟩, e5.below hb (by omega)⟩, e6⟩)
    MI0 88 (fun x => #[.int .i64 x.page, .int .i64 x.off, .int .i64 x.from_, .int .i64 x.n]) (fun x b => [(32, .agg #[.int .i64 x.page, .int .i64 x.off, .int .i64 x.from_, .int .i64 x.n]), (13, .pointer (some ⟨b, 0, none⟩))])
    ?assign ?body ?done ?stop
  case assign =>
    rintro l pre x W K hI hR hK
    obtain ⟨pg, of, fr, nn⟩ := x
    simp only [encPc] at hK ⊢
    gi_wp2
    exact hK _ _ ((KeepsOthers.alloc _ _).from _) (KpP.of_below ((Below.refl _ W).alloc (Nat.le_refl _) _)) (hI.below ((Below.refl _ W).alloc hI.sz _)) trivial ⟨W.heap.size, hI.sz, Blk.new W _ _, rfl⟩
  case body =>
    rintro l pre x Bx W hl ⟨r, hr⟩ hI hR hBx bX hlen
    obtain ⟨j, hpre, hx, hjk⟩ := hR
    have hpl : pre.length = j := by rw [hpre, pcN_len]
    have hpg : x.page = a / 64 + j := by rw [hx]; exact frK_page hjk
    obtain ⟨pg, of, fr, nn⟩ := x
    simp only at hpg bX
    have HPG := Lib.hid hpg
    have HXK := Lib.hid hx
    have HPRE := Lib.hid hpre
    have HPL := Lib.hid hpl
    clear hpg hx hpre hpl
    have HI := Lib.hid hI
    have HBX := Lib.hid bX
    have HW := Lib.hid (fun W1 (hb : Below W.heap.size W W1) => HH.out.below (hI.lo.trans (hb.mono (Nat.le_trans (Nat.le_add_right _ _) hI.sz))))
    have HFX := Lib.hid (fun W1 (hb : Below W.heap.size W W1) => (show W1.cell? ⟨w.heap.size, 0, none⟩ = some (.pointer (some ⟨sb, 0, none⟩)) ∧ W1.cell? ⟨sb, 1, none⟩ = some (.pointer (some ⟨bt, 0, none⟩)) ∧ W1.cell? ⟨Bx, 0, none⟩ = some (.int .i64 ((pg : Nat) : Int)) from
      ⟨(hI.bs.below hb hI.bs.lt).cell 0, (HW.out W1 hb).s.p.cell 1, (bX.below hb bX.lt).cell 0⟩))
    obtain ⟨o, ho⟩ : ∃ o, look m ((pg : Nat) : Int) = o := ⟨_, rfl⟩
    obtain ⟨⟨f, a1, a2, a3, a4⟩, hx5⟩ : ∃ x5, o.getD E.zero = x5 := ⟨_, rfl⟩
    obtain ⟨ib, hib⟩ : ∃ ib, o.isSome = ib := ⟨_, rfl⟩
    have HG := Lib.hid (fun W1 (hb : Below W.heap.size W W1) => (show Calls Try.prog 37 #[.pointer (some ⟨bt, 0, none⟩), .int .i64 ((pg : Nat) : Int)] W1 fun e w' => e = .returned (.tuple #[.agg #[.int .i64 f, .bool a1, .bool a2, .bool a3, .bool a4], .bool ib]) ∧ Below W1.heap.size W1 w' from by
      have := get_any (HW.out W1 hb).s.t ((pg : Nat) : Int)
      rw [ho] at this
      unfold gotV at this
      rw [hx5, hib] at this
      exact this))
    clear hI bX
    simp only [setL, List.setIfInBounds_toArray, List.set_cons_zero, List.set_cons_succ]
    gi_wp2_with (fail)
    refine region_then (fun T a' W' => ∃ B2, Below W.heap.size W W' ∧ W.heap.size ≤ B2 ∧ Blk W' B2 71 #[.int .i64 f, .bool a1, .bool a2, .bool a3, .bool a4] ∧ a' = ⟨setL T [(34, .pointer (some ⟨sb, 0, none⟩)), (35, .pointer (some ⟨sb, 0, none⟩)), (36, .pointer (some ⟨sb, 1, none⟩)), (37, .pointer (some ⟨bt, 0, none⟩)), (38, .pointer (some ⟨Bx, 0, none⟩)), (39, .int .i64 ((pg : Nat) : Int)), (40, .tuple #[.agg #[.int .i64 f, .bool a1, .bool a2, .bool a3, .bool a4], .bool ib]), (33, .tuple #[.agg #[.int .i64 f, .bool a1, .bool a2, .bool a3, .bool a4], .bool ib]), (41, .agg #[.int .i64 f, .bool a1, .bool a2, .bool a3, .bool a4]), (42, .bool ib), (14, .pointer (some ⟨B2, 0, none⟩)), (15, .bool ib)], []⟩) ?reg ?rest
    case reg =>
      refine wpIn_region_heldN (S := fun w' => Below W.heap.size W w') (by kernel_rfl) ((Below.refl W.heap.size W).drew) (fun hS => ?_)
      refine wpAnyInH_take (i := 0) (v := ?_) rfl (by kernel_rfl) (by kernel_rfl) (by kernel_rfl) (fun _ _ _ h => h) (fun _ => rfl) (Or.inl ⟨by kernel_rfl, ?_⟩) hS ?_
      rotate_left 1
      · intro w hS
        obtain ⟨d0, d1, d2⟩ := HFX.out w hS
        go_simp
        all_goals with_reducible rfl
      try simp only [Act.put, List.setIfInBounds_toArray, List.set_cons_zero, List.set_cons_succ]
      refine wpAnyInH_take (i := 1) (v := ?_) rfl (by kernel_rfl) (by kernel_rfl) (by kernel_rfl) (fun _ _ _ h => h) (fun _ => rfl) (Or.inl ⟨by kernel_rfl, ?_⟩) hS ?_
      rotate_left 1
      · intro w hS
        obtain ⟨d0, d1, d2⟩ := HFX.out w hS
        go_simp
        all_goals with_reducible rfl
      try simp only [Act.put, List.setIfInBounds_toArray, List.set_cons_zero, List.set_cons_succ]
      refine wpAnyInH_take (i := 2) (v := ?_) rfl (by kernel_rfl) (by kernel_rfl) (by kernel_rfl) (fun _ _ _ h => h) (fun _ => rfl) (Or.inl ⟨by kernel_rfl, ?_⟩) hS ?_
      rotate_left 1
      · intro w hS
        obtain ⟨d0, d1, d2⟩ := HFX.out w hS
        go_simp
        all_goals with_reducible rfl
      try simp only [Act.put, List.setIfInBounds_toArray, List.set_cons_zero, List.set_cons_succ]
      refine wpAnyInH_take (i := 3) (v := ?_) rfl (by kernel_rfl) (by kernel_rfl) (by kernel_rfl) (fun _ _ _ h => h) (fun _ => rfl) (Or.inl ⟨by kernel_rfl, ?_⟩) hS ?_
      rotate_left 1
      · intro w hS
        obtain ⟨d0, d1, d2⟩ := HFX.out w hS
        go_simp
        all_goals with_reducible rfl
      try simp only [Act.put, List.setIfInBounds_toArray, List.set_cons_zero, List.set_cons_succ]
      refine wpAnyInH_take (i := 4) (v := ?_) rfl (by kernel_rfl) (by kernel_rfl) (by kernel_rfl) (fun _ _ _ h => h) (fun _ => rfl) (Or.inl ⟨by kernel_rfl, ?_⟩) hS ?_
      rotate_left 1
      · intro w hS
        obtain ⟨d0, d1, d2⟩ := HFX.out w hS
        go_simp
        all_goals with_reducible rfl
      try simp only [Act.put, List.setIfInBounds_toArray, List.set_cons_zero, List.set_cons_succ]
      refine wpAnyInH_take (i := 5) (v := ?_) rfl (by kernel_rfl) (by kernel_rfl) (by kernel_rfl) (fun _ _ _ h => h) (fun _ => rfl) (Or.inl ⟨by kernel_rfl, ?_⟩) hS ?_
      rotate_left 1
      · intro w hS
        obtain ⟨d0, d1, d2⟩ := HFX.out w hS
        go_simp
        all_goals with_reducible rfl
      try simp only [Act.put, List.setIfInBounds_toArray, List.set_cons_zero, List.set_cons_succ]
      refine wpAnyInH_ready (rs := [6, 10]) (by kernel_rfl) (by simp) ?_
      refine AllReadyInH.cons rfl (fun K hK => ?_) (AllReadyInH.cons rfl (fun K hK => ?_) AllReadyInH.nil)

      · skip
        go_simp
        refine ⟨trivial, fun _ => by omega, (callsIn_wide.2 (HG.out _ hS)).mono ?_⟩
        rintro e V ⟨rfl, hbV⟩
        refine hK.out _ _ (bl_step hS hbV) (fun hS => ?_)
        clear hK K
        try simp only [Act.put, List.setIfInBounds_toArray, List.set_cons_zero, List.set_cons_succ]
        have hVs : W.heap.size ≤ V.heap.size := hS.size
        refine wpAnyInH_take (i := 7) (v := ?_) rfl (by kernel_rfl) (by kernel_rfl) (by kernel_rfl) (fun _ _ _ h => h) (fun _ => rfl) (Or.inl ⟨by kernel_rfl, ?_⟩) hS ?_
        rotate_left 1
        · intro w hS
          go_simp
          all_goals with_reducible rfl
        try simp only [Act.put, List.setIfInBounds_toArray, List.set_cons_zero, List.set_cons_succ]
        refine wpAnyInH_take (i := 8) (v := ?_) rfl (by kernel_rfl) (by kernel_rfl) (by kernel_rfl) (fun _ _ _ h => h) (fun _ => rfl) (Or.inl ⟨by kernel_rfl, ?_⟩) hS ?_
        rotate_left 1
        · intro w hS
          go_simp
          all_goals with_reducible rfl
        try simp only [Act.put, List.setIfInBounds_toArray, List.set_cons_zero, List.set_cons_succ]
        refine wpAnyInH_take (i := 9) (v := ?_) rfl (by kernel_rfl) (by kernel_rfl) (by kernel_rfl) (fun _ _ _ h => h) (fun _ => rfl) (Or.inl ⟨by kernel_rfl, ?_⟩) hS ?_
        rotate_left 1
        · intro w hS
          go_simp
          all_goals with_reducible rfl
        try simp only [Act.put, List.setIfInBounds_toArray, List.set_cons_zero, List.set_cons_succ]
        refine wpAnyInH_ready (rs := [10]) (by kernel_rfl) (by simp) ?_
        refine AllReadyInH.cons rfl (fun K hK => ?_) AllReadyInH.nil
        go_simp
        refine hK.out _ _ (bl_new hS _) (fun hS => ?_)
        clear hK K
        try simp only [Act.put, List.setIfInBounds_toArray, List.set_cons_zero, List.set_cons_succ]
        refine wpAnyInH_ready (rs := [11]) (by kernel_rfl) (by simp) ?_
        refine AllReadyInH.cons rfl (fun K hK => ?_) AllReadyInH.nil
        go_simp
        refine hK.out _ _ (bl_new (by assumption) _) (fun hS => ?_)
        clear hK K
        try simp only [Act.put, List.setIfInBounds_toArray, List.set_cons_zero, List.set_cons_succ]
        refine wpAnyInH_take (i := 12) (v := ?_) rfl (by kernel_rfl) (by kernel_rfl) (by kernel_rfl) (fun _ _ _ h => h) (fun _ => rfl) (Or.inl ⟨by kernel_rfl, ?_⟩) hS ?_
        rotate_left 1
        · intro w hS
          go_simp
          all_goals with_reducible rfl
        try simp only [Act.put, List.setIfInBounds_toArray, List.set_cons_zero, List.set_cons_succ]
        refine wpAnyInH_done (by kernel_rfl) ?_ _
        refine ⟨V.heap.size, hS, hVs, Blk.new V _ _, ?_⟩
        simp only [setL, List.setIfInBounds_toArray, List.set_cons_zero, List.set_cons_succ]
        go_simp
      · skip
        go_simp
        refine hK.out _ _ (bl_new hS _) (fun hS => ?_)
        clear hK K
        try simp only [Act.put, List.setIfInBounds_toArray, List.set_cons_zero, List.set_cons_succ]
        refine wpAnyInH_ready (rs := [6]) (by kernel_rfl) (by simp) ?_
        refine AllReadyInH.cons rfl (fun K hK => ?_) AllReadyInH.nil
        go_simp
        refine ⟨trivial, fun _ => by omega, (callsIn_wide.2 (HG.out _ hS)).mono ?_⟩
        rintro e V ⟨rfl, hbV⟩
        refine hK.out _ _ (bl_step hS hbV) (fun hS => ?_)
        clear hK K
        try simp only [Act.put, List.setIfInBounds_toArray, List.set_cons_zero, List.set_cons_succ]
        refine wpAnyInH_take (i := 7) (v := ?_) rfl (by kernel_rfl) (by kernel_rfl) (by kernel_rfl) (fun _ _ _ h => h) (fun _ => rfl) (Or.inl ⟨by kernel_rfl, ?_⟩) hS ?_
        rotate_left 1
        · intro w hS
          go_simp
          all_goals with_reducible rfl
        try simp only [Act.put, List.setIfInBounds_toArray, List.set_cons_zero, List.set_cons_succ]
        refine wpAnyInH_take (i := 8) (v := ?_) rfl (by kernel_rfl) (by kernel_rfl) (by kernel_rfl) (fun _ _ _ h => h) (fun _ => rfl) (Or.inl ⟨by kernel_rfl, ?_⟩) hS ?_
        rotate_left 1
        · intro w hS
          go_simp
          all_goals with_reducible rfl
        try simp only [Act.put, List.setIfInBounds_toArray, List.set_cons_zero, List.set_cons_succ]
        refine wpAnyInH_take (i := 9) (v := ?_) rfl (by kernel_rfl) (by kernel_rfl) (by kernel_rfl) (fun _ _ _ h => h) (fun _ => rfl) (Or.inl ⟨by kernel_rfl, ?_⟩) hS ?_
        rotate_left 1
        · intro w hS
          go_simp
          all_goals with_reducible rfl
        try simp only [Act.put, List.setIfInBounds_toArray, List.set_cons_zero, List.set_cons_succ]
        have z := (show Blk V W.heap.size 71 E.zero.arr from (Blk.new W.drew 71 E.zero.arr).below hbV (by simp))
        have z0 := z.cell 0
        have z1 := z.cell 1
        have z2 := z.cell 2
        have z3 := z.cell 3
        have z4 := z.cell 4
        simp only [E.zero, E.arr, List.getElem?_toArray, List.getElem?_cons_zero, List.getElem?_cons_succ] at z0 z1 z2 z3 z4
        have g0 := z.frozen 0
        have g1 := z.frozen 1
        have g2 := z.frozen 2
        have g3 := z.frozen 3
        have g4 := z.frozen 4
        have zl := z.lt
        refine wpAnyInH_ready (rs := [11]) (by kernel_rfl) (by simp) ?_
        refine AllReadyInH.cons rfl (fun K hK => ?_) AllReadyInH.nil
        go_simp
        refine hK.out _ _ ((But.entrySet (S := fun _ => False) (But.of_below hS) (b := W.heap.size) (.inr (Nat.le_refl _)) _ _ _ _ _).below (fun _ h => h.elim) (Nat.le_refl _)) (fun hS => ?_)
        clear hK K
        try simp only [Act.put, List.setIfInBounds_toArray, List.set_cons_zero, List.set_cons_succ]
        refine wpAnyInH_take (i := 12) (v := ?_) rfl (by kernel_rfl) (by kernel_rfl) (by kernel_rfl) (fun _ _ _ h => h) (fun _ => rfl) (Or.inl ⟨by kernel_rfl, ?_⟩) hS ?_
        rotate_left 1
        · intro w hS
          go_simp
          all_goals with_reducible rfl
        try simp only [Act.put, List.setIfInBounds_toArray, List.set_cons_zero, List.set_cons_succ]
        refine wpAnyInH_done (by kernel_rfl) ?_ _
        refine ⟨W.heap.size, hS, Nat.le_refl _, z.entrySet (x := E.zero) _ _ _ _ _, ?_⟩
        simp only [setL, List.setIfInBounds_toArray, List.set_cons_zero, List.set_cons_succ]
        go_simp
    case rest =>
      rintro a' W5 ⟨B2, hb5, hB2, bx5, rfl⟩
      simp only [setL, List.setIfInBounds_toArray, List.set_cons_zero, List.set_cons_succ]
      have hI5 := HI.out.below (hb5.mono HI.out.sz)
      rw [HPL.out] at hI5
      have HI5 := Lib.hid hI5
      have HBT := Lib.hid (But.of_below (S := fun i => w.heap.size ≤ i ∧ i < w.heap.size + 6) hb5)
      have HX5 := Lib.hid bx5
      have HIB := Lib.hid hib
      have HX := Lib.hid hx5
      have HO := Lib.hid ho
      have HPL1 := Lib.hid (show (pre ++ [(⟨pg, of, fr, nn⟩ : Pc)]).length = j + 1 from by rw [List.length_append, HPL.out]; rfl)
      clear hI5 hb5 bx5 hib hx5 ho HG HFX
      have HB2 := Lib.hid (Nat.le_trans HI.out.sz hB2)
      clear hB2
      have c5 := HI5.out.bf.cell 0
      have c7 := HI5.out.bw.cell 0
      have c1 := HX5.out.cell 1
      simp only [List.getElem?_toArray, List.getElem?_cons_zero, List.getElem?_cons_succ] at c5 c7 c1
      have g5 := HI5.out.bf.frozen 0
      have l5 := HI5.out.bf.lt
      have HNO := Lib.hid (show ∀ (W6 : World), W6 = W5.setCell ⟨w.heap.size + 5, 0, none⟩ (.bool false) → KeepsFrom (w.heap.size + 8) W W6 ∧ KpP (w.heap.size + 6) W W6 ∧ (Code.exit 0 = Code.exit 0 ∧ w.heap.size + 8 ≤ W6.heap.size ∧ Below w.heap.size w W6 ∧ (∃ v, Blk W6 (w.heap.size + 2) 3 #[.int .i64 v]) ∧ Blk W6 (w.heap.size + 5) 4 #[.bool false]) from by
        rintro _ rfl
        have hbt := HBT.out.setCell (p := ⟨w.heap.size + 5, 0, none⟩) (.inl ⟨by show w.heap.size ≤ w.heap.size + 5; omega, by show w.heap.size + 5 < w.heap.size + 6; omega⟩) (.bool false)
        exact ⟨KeepsFrom.of_but hbt (fun i hi => by omega), KpP.of_but hbt (fun i hi => hi.2), rfl, by simpa [World.setCell] using HI5.out.sz, HI5.out.lo.setCell (by show w.heap.size ≤ w.heap.size + 5; omega) _, ⟨_, HI5.out.bn.far (by show w.heap.size + 2 ≠ w.heap.size + 5; omega) _⟩, HI5.out.bf.set_ 0 _⟩)
      cases ib with
      | false =>
        gi_wp2
        show leftP _ _ _ _ _ _ (.exit 0) _ _
        obtain ⟨q1, q2, _, q3⟩ := HNO.out _ rfl
        refine ⟨q1, q2, ⟨rfl, q3⟩, ?_⟩
        rw [HPL1.out]
        intro hk
        obtain ⟨x', hx', _⟩ := hk j (by omega)
        rw [← HPG.out, HO.out] at hx'
        have := HIB.out
        rw [hx'] at this
        cases this
      | true =>
        obtain ⟨x, hox⟩ := Option.isSome_iff_exists.1 HIB.out
        have hxx : x = ⟨f, a1, a2, a3, a4⟩ := by
          have := HX.out
          rw [hox] at this
          exact this
        subst hxx
        subst hox
        have HP64 := Lib.hid (show pg < 64 from by
          have := HO.out
          unfold look at this
          split at this
          · omega
          · cases this)
        have hmp : m pg = some ⟨f, a1, a2, a3, a4⟩ := by
          have := HO.out
          rw [look_in m HP64.out] at this
          exact this
        obtain ⟨fn, hfn0, hfl, hfr⟩ := HOK.out.used pg _ HP64.out hmp
        have hfn : f = (fn : Int) := hfn0
        have hnn := HH.out.f.ok.pos
        have htop := HH.out.f.ok.top fn
        have HFF := Lib.hid (show 0 ≤ f ∧ f < 256 from by omega)
        have HREF := Lib.hid (show 0 ≤ refsI F f ∧ refsI F f ≤ 1000000 from by
          unfold refsI
          rw [if_pos (by omega), hfn, Int.toNat_natCast]
          omega)
        have HINJ := Lib.hid (show ∀ (j' : Nat) (x' : E), j' < j → look m ((a / 64 + j' : Nat) : Int) = some x' → x'.f ≠ f from fun j' x' hj' hl' e => by
          have h64 : a / 64 + j' < 64 := by
            unfold look at hl'
            split at hl'
            · omega
            · cases hl'
          rw [look_in m h64] at hl'
          have := HOK.out.one _ _ _ _ h64 HP64.out hl' hmp e
          have := HPG.out
          omega)
        have HSB := Lib.hid (show sb < w.heap.size from HH.out.s.p.lt)
        have HJL := Lib.hid (show j < 66 from by have := HPL.out; omega)
        clear hmp hfn hfn0 hfl hfr hnn htop
        by_cases hwr : wr = true → a1 = true
        · have HOKJ := Lib.hid (show okK m a wr (j + 1) from fun i hi => by
            by_cases hij : i = j
            · subst hij
              exact ⟨_, by rw [← HPG.out]; exact HO.out, hwr⟩
            · exact HI5.out.ok i (by omega))
          rcases (show a1 = true ∨ (a1 = false ∧ wr = false) from by cases a1 <;> cases wr <;> simp_all) with rfl | ⟨rfl, rfl⟩
          · clear hwr
            have HX1 := Lib.hid (show look m ((pg : Nat) : Int) = some ⟨f, _, a2, a3, a4⟩ from HO.out)
            have hI6 := HI5.out.fine
            have hbt6 := HBT.out.setCell (p := ⟨w.heap.size + 5, 0, none⟩) (.inl ⟨by show w.heap.size ≤ w.heap.size + 5; omega, by show w.heap.size + 5 < w.heap.size + 6; omega⟩) (.bool true)
            have hx6 := HX5.out.far (p := ⟨w.heap.size + 5, 0, none⟩) (by show B2 ≠ w.heap.size + 5; have := HB2.out; omega) (.bool true)
            have HI6 := Lib.hid hI6
            have HBT6 := Lib.hid hbt6
            have HX6 := Lib.hid hx6
            obtain ⟨v0, hrun6⟩ := hI6.none_ HFF.out (HINJ.out)
            have d4 := hI6.bm.cell 0
            have d0 := hx6.cell 0
            have b4 := HI5.out.bm.cell 0
            have b0 := HX5.out.cell 0
            simp only [List.getElem?_toArray, List.getElem?_cons_zero, List.getElem?_cons_succ] at d4 d0 b4 b0
            have e4 := HI5.out.bm.lt
            have e0 := HX5.out.lt
            have n1 : ¬ B2 = w.heap.size + 5 := by have := HB2.out; omega
            have n2 : ¬ w.heap.size + 5 = B2 := by have := HB2.out; omega
            clear hI6 hbt6 hx6 HNO
            gi_wp2_with (fail)
            generalize W5.setCell ⟨w.heap.size + 5, 0, none⟩ (.bool true) = W6 at *
            clear c5 c7 c1 g5 l5 HI5 HX5 HBT b4 b0 n1 n2
            have HF6 := Lib.hid (HH.out.below HI6.out.lo)
            clear hrun6
            have HFX6 := Lib.hid (fun W1 (hb : But (fun i => i = w.heap.size + 3) W6 W1) => (show W1.cell? ⟨w.heap.size + 4, 0, none⟩ = some (.map (some (w.heap.size + 3))) ∧ W1.cell? ⟨B2, 0, none⟩ = some (.int .i64 f) ∧ W1.cell? ⟨w.heap.size, 0, none⟩ = some (.pointer (some ⟨sb, 0, none⟩)) ∧ W1.cell? ⟨sb, 0, none⟩ = some (.pointer (some ⟨fb, 0, none⟩)) from
              ⟨(HI6.out.bm.but hb (by omega)).cell 0, (HX6.out.but hb (by have := HB2.out; have := HI.out.sz; omega)).cell 0, (HI6.out.bs.but hb (by omega)).cell 0, (HF6.out.s.p.but hb (by have := HSB.out; omega)).cell 0⟩))
            have HR := Lib.hid (frRefs_any HF6.out.f.drew f)
            have HRR := HREF.out
            obtain ⟨r, hrq⟩ : ∃ r, refsI F f = r := ⟨_, rfl⟩
            rw [hrq] at HR HRR
            have HRQ := Lib.hid hrq
            clear hrq
            obtain ⟨W7, hrun7, hI7, hg7, hv7⟩ := (HI6.out.below (Below.refl _ W6).drew).put (by have := HJL.out; omega) HFF.out r (by omega) (j := j) (k' := j + 1) (by omega) (by rw [← HPG.out]; exact HX1.out) rfl (by omega) HOKJ.out
            have HI7 := Lib.hid hI7
            have HG7 := Lib.hid (show But (fun i => i = w.heap.size + 3) W6 W7 from ⟨hg7.os, hg7.tape, hg7.output, hg7.size, fun i hi hn => hg7.block i hi (fun e => hn (by injection e))⟩)
            have HV7 := Lib.hid hv7
            clear hI7 hg7 hv7 d4 d0 e4 e0
            refine wpIn_region_heldN (S := fun w' => But (fun i => i = w.heap.size + 3) W6 w') (by kernel_rfl) ((But.refl _ W6).drew) (fun hS => ?_)
            refine wpAnyInH_take (i := 0) (v := ?_) rfl (by kernel_rfl) (by kernel_rfl) (by kernel_rfl) (fun _ _ _ h => h) (fun _ => rfl) (Or.inl ⟨by kernel_rfl, ?_⟩) hS ?_
            rotate_left 1
            · intro w hS
              obtain ⟨d0, d1, d2, d3⟩ := HFX6.out w hS
              go_simp
              all_goals with_reducible rfl
            try simp only [Act.put, List.setIfInBounds_toArray, List.set_cons_zero, List.set_cons_succ]
            refine wpAnyInH_take (i := 1) (v := ?_) rfl (by kernel_rfl) (by kernel_rfl) (by kernel_rfl) (fun _ _ _ h => h) (fun _ => rfl) (Or.inl ⟨by kernel_rfl, ?_⟩) hS ?_
            rotate_left 1
            · intro w hS
              obtain ⟨d0, d1, d2, d3⟩ := HFX6.out w hS
              go_simp
              all_goals with_reducible rfl
            try simp only [Act.put, List.setIfInBounds_toArray, List.set_cons_zero, List.set_cons_succ]
            refine wpAnyInH_take (i := 2) (v := ?_) rfl (by kernel_rfl) (by kernel_rfl) (by kernel_rfl) (fun _ _ _ h => h) (fun _ => rfl) (Or.inl ⟨by kernel_rfl, ?_⟩) hS ?_
            rotate_left 1
            · intro w hS
              obtain ⟨d0, d1, d2, d3⟩ := HFX6.out w hS
              go_simp
              all_goals with_reducible rfl
            try simp only [Act.put, List.setIfInBounds_toArray, List.set_cons_zero, List.set_cons_succ]
            refine wpAnyInH_take (i := 3) (v := ?_) rfl (by kernel_rfl) (by kernel_rfl) (by kernel_rfl) (fun _ _ _ h => h) (fun _ => rfl) (Or.inl ⟨by kernel_rfl, ?_⟩) hS ?_
            rotate_left 1
            · intro w hS
              obtain ⟨d0, d1, d2, d3⟩ := HFX6.out w hS
              go_simp
              all_goals with_reducible rfl
            try simp only [Act.put, List.setIfInBounds_toArray, List.set_cons_zero, List.set_cons_succ]
            refine wpAnyInH_take (i := 4) (v := ?_) rfl (by kernel_rfl) (by kernel_rfl) (by kernel_rfl) (fun _ _ _ h => h) (fun _ => rfl) (Or.inl ⟨by kernel_rfl, ?_⟩) hS ?_
            rotate_left 1
            · intro w hS
              obtain ⟨d0, d1, d2, d3⟩ := HFX6.out w hS
              go_simp
              all_goals with_reducible rfl
            try simp only [Act.put, List.setIfInBounds_toArray, List.set_cons_zero, List.set_cons_succ]
            refine wpAnyInH_take (i := 5) (v := ?_) rfl (by kernel_rfl) (by kernel_rfl) (by kernel_rfl) (fun _ _ _ h => h) (fun _ => rfl) (Or.inl ⟨by kernel_rfl, ?_⟩) hS ?_
            rotate_left 1
            · intro w hS
              obtain ⟨d0, d1, d2, d3⟩ := HFX6.out w hS
              go_simp
              all_goals with_reducible rfl
            try simp only [Act.put, List.setIfInBounds_toArray, List.set_cons_zero, List.set_cons_succ]
            refine wpAnyInH_take (i := 6) (v := ?_) rfl (by kernel_rfl) (by kernel_rfl) (by kernel_rfl) (fun _ _ _ h => h) (fun _ => rfl) (Or.inl ⟨by kernel_rfl, ?_⟩) hS ?_
            rotate_left 1
            · intro w hS
              obtain ⟨d0, d1, d2, d3⟩ := HFX6.out w hS
              go_simp
              all_goals with_reducible rfl
            try simp only [Act.put, List.setIfInBounds_toArray, List.set_cons_zero, List.set_cons_succ]
            refine wpAnyInH_take (i := 7) (v := ?_) rfl (by kernel_rfl) (by kernel_rfl) (by kernel_rfl) (fun _ _ _ h => h) (fun _ => rfl) (Or.inl ⟨by kernel_rfl, ?_⟩) hS ?_
            rotate_left 1
            · intro w hS
              obtain ⟨d0, d1, d2, d3⟩ := HFX6.out w hS
              go_simp
              all_goals with_reducible rfl
            try simp only [Act.put, List.setIfInBounds_toArray, List.set_cons_zero, List.set_cons_succ]
            refine wpAnyInH_take (i := 8) (v := ?_) rfl (by kernel_rfl) (by kernel_rfl) (by kernel_rfl) (fun _ _ _ h => h) (fun _ => rfl) (Or.inl ⟨by kernel_rfl, ?_⟩) hS ?_
            rotate_left 1
            · intro w hS
              obtain ⟨d0, d1, d2, d3⟩ := HFX6.out w hS
              go_simp
              all_goals with_reducible rfl
            try simp only [Act.put, List.setIfInBounds_toArray, List.set_cons_zero, List.set_cons_succ]
            refine wpAnyInH_ready (rs := [9]) (by kernel_rfl) (by simp) ?_
            refine AllReadyInH.cons rfl (fun K hK => ?_) AllReadyInH.nil
            go_simp
            refine ⟨trivial, fun _ => by omega, (callsIn_wide.2 (HR.out)).mono ?_⟩
            rintro e _ ⟨rfl, rfl⟩
            refine hK.out _ _ ((But.refl _ W6).drew) (fun hS => ?_)
            clear hK K
            try simp only [Act.put, List.setIfInBounds_toArray, List.set_cons_zero, List.set_cons_succ]
            refine wpAnyInH_ready (rs := [10]) (by kernel_rfl) (by simp) ?_
            refine AllReadyInH.cons rfl (fun K hK => ?_) AllReadyInH.nil
            go_simp
            refine hK.out _ _ HG7.out (fun hS => ?_)
            clear hK K
            try simp only [Act.put, List.setIfInBounds_toArray, List.set_cons_zero, List.set_cons_succ]
            refine wpAnyInH_done (by kernel_rfl) ?_ _
            clear hrun7 HR HFX6 hS
            have HX7 := Lib.hid (HX6.out.but HG7.out (by have := HB2.out; have := HI.out.sz; omega))
            have HBT7 := Lib.hid (HBT6.out.trans HG7.out (fun i hi => .inl (by have hi : i = w.heap.size + 3 := hi; omega)))
            have hl7 := HV7.out.run HFF.out
            have d4 := HI7.out.bm.cell 0
            have d0 := HX7.out.cell 0
            have d3 := HX7.out.cell 3
            have dn := HI7.out.bn.cell 0
            simp only [List.getElem?_toArray, List.getElem?_cons_zero, List.getElem?_cons_succ] at d4 d0 d3 dn
            have gn := HI7.out.bn.frozen 0
            have e4 := HI7.out.bm.lt
            have e0 := HX7.out.lt
            have en := HI7.out.bn.lt
            cases a3 with
            | false =>
              have HND := Lib.hid (show needK F m a (j + 1) = needK F m a j from by rw [needK, ← HPG.out, HX1.out]; rfl)
              gi_wp2
              show leftP _ _ _ _ _ _ .normal _ _
              refine ⟨KeepsFrom.of_but HBT7.out (fun i hi => by omega), KpP.of_but HBT7.out (fun i hi => hi.2), ?_⟩
              show MI w w.heap.size sb a m _ (pre ++ [(⟨pg, of, fr, nn⟩ : Pc)]).length _ _ _
              rw [HPL1.out, HND.out]
              exact HI7.out.mono (by omega)
            | true =>
              by_cases hr1 : 1 < r
              · have HND := Lib.hid (show needK F m a (j + 1) = needK F m a j + 1 from by rw [needK, ← HPG.out, HX1.out]; exact congrArg _ (if_pos ⟨rfl, by rw [HRQ.out]; exact hr1⟩))
                have hnl := needK_le F m a j
                have hjl := HJL.out
                have hI8 := HI7.out.need (needK F m a j + 1)
                have hx8 := HX7.out.far (p := ⟨w.heap.size + 2, 0, none⟩) (by show B2 ≠ w.heap.size + 2; have := HB2.out; omega) (.int .i64 ((needK F m a j + 1 : Nat) : Int))
                have hbt8 := HBT7.out.setCell (p := ⟨w.heap.size + 2, 0, none⟩) (.inl ⟨by show w.heap.size ≤ w.heap.size + 2; omega, by show w.heap.size + 2 < w.heap.size + 6; omega⟩) (.int .i64 ((needK F m a j + 1 : Nat) : Int))
                have hv8 := HV7.out.need (p := ⟨w.heap.size + 2, 0, none⟩) (by show w.heap.size + 3 ≠ w.heap.size + 2; omega) (.int .i64 ((needK F m a j + 1 : Nat) : Int))
                rw [show ((needK F m a j + 1 : Nat) : Int) = ((needK F m a j : Nat) : Int) + 1 by omega] at hI8 hx8 hbt8 hv8
                obtain ⟨W9, hrun9, hI9, hg9, hv9⟩ := hI8.put (by omega) HFF.out (r - 1) (by omega) (j := j) (k' := j + 1) (by omega) (by rw [← HPG.out]; exact HX1.out) rfl (by omega) HOKJ.out
                have hl8 := hv8.run HFF.out
                have q4 := hI8.bm.cell 0
                have q0 := hx8.cell 0
                simp only [List.getElem?_toArray, List.getElem?_cons_zero, List.getElem?_cons_succ] at q4 q0
                have HI9 := Lib.hid hI9
                have HBT9 := Lib.hid (hbt8.trans (show But (fun i => i = w.heap.size + 3) _ W9 from ⟨hg9.os, hg9.tape, hg9.output, hg9.size, fun i hi hn => hg9.block i hi (fun e => hn (by injection e))⟩) (fun i hi => .inl (by have hi : i = w.heap.size + 3 := hi; omega)))
                clear hI8 hx8 hbt8 hv8 hI9 hg9 hv9
                gi_wp2
                show leftP _ _ _ _ _ _ .normal _ _
                refine ⟨KeepsFrom.of_but HBT9.out (fun i hi => by omega), KpP.of_but HBT9.out (fun i hi => hi.2), ?_⟩
                show MI w w.heap.size sb a m _ (pre ++ [(⟨pg, of, fr, nn⟩ : Pc)]).length _ _ _
                rw [HPL1.out, HND.out]
                exact HI9.out.mono (by omega)
              · have HND := Lib.hid (show needK F m a (j + 1) = needK F m a j from by rw [needK, ← HPG.out, HX1.out]; exact congrArg _ (if_neg (fun h => hr1 (by rw [← HRQ.out]; exact h.2))))
                gi_wp2
                show leftP _ _ _ _ _ _ .normal _ _
                refine ⟨KeepsFrom.of_but HBT7.out (fun i hi => by omega), KpP.of_but HBT7.out (fun i hi => hi.2), ?_⟩
                show MI w w.heap.size sb a m _ (pre ++ [(⟨pg, of, fr, nn⟩ : Pc)]).length _ _ _
                rw [HPL1.out, HND.out]
                exact HI7.out.mono (by omega)
          · clear hwr
            have HX1 := Lib.hid (show look m ((pg : Nat) : Int) = some ⟨f, _, a2, a3, a4⟩ from HO.out)
            have hI6 := HI5.out.fine
            have hbt6 := HBT.out.setCell (p := ⟨w.heap.size + 5, 0, none⟩) (.inl ⟨by show w.heap.size ≤ w.heap.size + 5; omega, by show w.heap.size + 5 < w.heap.size + 6; omega⟩) (.bool true)
            have hx6 := HX5.out.far (p := ⟨w.heap.size + 5, 0, none⟩) (by show B2 ≠ w.heap.size + 5; have := HB2.out; omega) (.bool true)
            have HI6 := Lib.hid hI6
            have HBT6 := Lib.hid hbt6
            have HX6 := Lib.hid hx6
            obtain ⟨v0, hrun6⟩ := hI6.none_ HFF.out (HINJ.out)
            have d4 := hI6.bm.cell 0
            have d0 := hx6.cell 0
            have b4 := HI5.out.bm.cell 0
            have b0 := HX5.out.cell 0
            simp only [List.getElem?_toArray, List.getElem?_cons_zero, List.getElem?_cons_succ] at d4 d0 b4 b0
            have e4 := HI5.out.bm.lt
            have e0 := HX5.out.lt
            have n1 : ¬ B2 = w.heap.size + 5 := by have := HB2.out; omega
            have n2 : ¬ w.heap.size + 5 = B2 := by have := HB2.out; omega
            clear hI6 hbt6 hx6 HNO
            gi_wp2_with (fail)
            generalize W5.setCell ⟨w.heap.size + 5, 0, none⟩ (.bool true) = W6 at *
            clear c5 c7 c1 g5 l5 HI5 HX5 HBT b4 b0 n1 n2
            have HF6 := Lib.hid (HH.out.below HI6.out.lo)
            clear hrun6
            have HFX6 := Lib.hid (fun W1 (hb : But (fun i => i = w.heap.size + 3) W6 W1) => (show W1.cell? ⟨w.heap.size + 4, 0, none⟩ = some (.map (some (w.heap.size + 3))) ∧ W1.cell? ⟨B2, 0, none⟩ = some (.int .i64 f) ∧ W1.cell? ⟨w.heap.size, 0, none⟩ = some (.pointer (some ⟨sb, 0, none⟩)) ∧ W1.cell? ⟨sb, 0, none⟩ = some (.pointer (some ⟨fb, 0, none⟩)) from
              ⟨(HI6.out.bm.but hb (by omega)).cell 0, (HX6.out.but hb (by have := HB2.out; have := HI.out.sz; omega)).cell 0, (HI6.out.bs.but hb (by omega)).cell 0, (HF6.out.s.p.but hb (by have := HSB.out; omega)).cell 0⟩))
            have HR := Lib.hid (frRefs_any HF6.out.f.drew f)
            have HRR := HREF.out
            obtain ⟨r, hrq⟩ : ∃ r, refsI F f = r := ⟨_, rfl⟩
            rw [hrq] at HR HRR
            have HRQ := Lib.hid hrq
            clear hrq
            obtain ⟨W7, hrun7, hI7, hg7, hv7⟩ := (HI6.out.below (Below.refl _ W6).drew).put (by have := HJL.out; omega) HFF.out r (by omega) (j := j) (k' := j + 1) (by omega) (by rw [← HPG.out]; exact HX1.out) rfl (by omega) HOKJ.out
            have HI7 := Lib.hid hI7
            have HG7 := Lib.hid (show But (fun i => i = w.heap.size + 3) W6 W7 from ⟨hg7.os, hg7.tape, hg7.output, hg7.size, fun i hi hn => hg7.block i hi (fun e => hn (by injection e))⟩)
            have HV7 := Lib.hid hv7
            clear hI7 hg7 hv7 d4 d0 e4 e0
            refine wpIn_region_heldN (S := fun w' => But (fun i => i = w.heap.size + 3) W6 w') (by kernel_rfl) ((But.refl _ W6).drew) (fun hS => ?_)
            refine wpAnyInH_take (i := 0) (v := ?_) rfl (by kernel_rfl) (by kernel_rfl) (by kernel_rfl) (fun _ _ _ h => h) (fun _ => rfl) (Or.inl ⟨by kernel_rfl, ?_⟩) hS ?_
            rotate_left 1
            · intro w hS
              obtain ⟨d0, d1, d2, d3⟩ := HFX6.out w hS
              go_simp
              all_goals with_reducible rfl
            try simp only [Act.put, List.setIfInBounds_toArray, List.set_cons_zero, List.set_cons_succ]
            refine wpAnyInH_take (i := 1) (v := ?_) rfl (by kernel_rfl) (by kernel_rfl) (by kernel_rfl) (fun _ _ _ h => h) (fun _ => rfl) (Or.inl ⟨by kernel_rfl, ?_⟩) hS ?_
            rotate_left 1
            · intro w hS
              obtain ⟨d0, d1, d2, d3⟩ := HFX6.out w hS
              go_simp
              all_goals with_reducible rfl
            try simp only [Act.put, List.setIfInBounds_toArray, List.set_cons_zero, List.set_cons_succ]
            refine wpAnyInH_take (i := 2) (v := ?_) rfl (by kernel_rfl) (by kernel_rfl) (by kernel_rfl) (fun _ _ _ h => h) (fun _ => rfl) (Or.inl ⟨by kernel_rfl, ?_⟩) hS ?_
            rotate_left 1
            · intro w hS
              obtain ⟨d0, d1, d2, d3⟩ := HFX6.out w hS
              go_simp
              all_goals with_reducible rfl
            try simp only [Act.put, List.setIfInBounds_toArray, List.set_cons_zero, List.set_cons_succ]
            refine wpAnyInH_take (i := 3) (v := ?_) rfl (by kernel_rfl) (by kernel_rfl) (by kernel_rfl) (fun _ _ _ h => h) (fun _ => rfl) (Or.inl ⟨by kernel_rfl, ?_⟩) hS ?_
            rotate_left 1
            · intro w hS
              obtain ⟨d0, d1, d2, d3⟩ := HFX6.out w hS
              go_simp
              all_goals with_reducible rfl
            try simp only [Act.put, List.setIfInBounds_toArray, List.set_cons_zero, List.set_cons_succ]
            refine wpAnyInH_take (i := 4) (v := ?_) rfl (by kernel_rfl) (by kernel_rfl) (by kernel_rfl) (fun _ _ _ h => h) (fun _ => rfl) (Or.inl ⟨by kernel_rfl, ?_⟩) hS ?_
            rotate_left 1
            · intro w hS
              obtain ⟨d0, d1, d2, d3⟩ := HFX6.out w hS
              go_simp
              all_goals with_reducible rfl
            try simp only [Act.put, List.setIfInBounds_toArray, List.set_cons_zero, List.set_cons_succ]
            refine wpAnyInH_take (i := 5) (v := ?_) rfl (by kernel_rfl) (by kernel_rfl) (by kernel_rfl) (fun _ _ _ h => h) (fun _ => rfl) (Or.inl ⟨by kernel_rfl, ?_⟩) hS ?_
            rotate_left 1
            · intro w hS
              obtain ⟨d0, d1, d2, d3⟩ := HFX6.out w hS
              go_simp
              all_goals with_reducible rfl
            try simp only [Act.put, List.setIfInBounds_toArray, List.set_cons_zero, List.set_cons_succ]
            refine wpAnyInH_take (i := 6) (v := ?_) rfl (by kernel_rfl) (by kernel_rfl) (by kernel_rfl) (fun _ _ _ h => h) (fun _ => rfl) (Or.inl ⟨by kernel_rfl, ?_⟩) hS ?_
            rotate_left 1
            · intro w hS
              obtain ⟨d0, d1, d2, d3⟩ := HFX6.out w hS
              go_simp
              all_goals with_reducible rfl
            try simp only [Act.put, List.setIfInBounds_toArray, List.set_cons_zero, List.set_cons_succ]
            refine wpAnyInH_take (i := 7) (v := ?_) rfl (by kernel_rfl) (by kernel_rfl) (by kernel_rfl) (fun _ _ _ h => h) (fun _ => rfl) (Or.inl ⟨by kernel_rfl, ?_⟩) hS ?_
            rotate_left 1
            · intro w hS
              obtain ⟨d0, d1, d2, d3⟩ := HFX6.out w hS
              go_simp
              all_goals with_reducible rfl
            try simp only [Act.put, List.setIfInBounds_toArray, List.set_cons_zero, List.set_cons_succ]
            refine wpAnyInH_take (i := 8) (v := ?_) rfl (by kernel_rfl) (by kernel_rfl) (by kernel_rfl) (fun _ _ _ h => h) (fun _ => rfl) (Or.inl ⟨by kernel_rfl, ?_⟩) hS ?_
            rotate_left 1
            · intro w hS
              obtain ⟨d0, d1, d2, d3⟩ := HFX6.out w hS
              go_simp
              all_goals with_reducible rfl
            try simp only [Act.put, List.setIfInBounds_toArray, List.set_cons_zero, List.set_cons_succ]
            refine wpAnyInH_ready (rs := [9]) (by kernel_rfl) (by simp) ?_
            refine AllReadyInH.cons rfl (fun K hK => ?_) AllReadyInH.nil
            go_simp
            refine ⟨trivial, fun _ => by omega, (callsIn_wide.2 (HR.out)).mono ?_⟩
            rintro e _ ⟨rfl, rfl⟩
            refine hK.out _ _ ((But.refl _ W6).drew) (fun hS => ?_)
            clear hK K
            try simp only [Act.put, List.setIfInBounds_toArray, List.set_cons_zero, List.set_cons_succ]
            refine wpAnyInH_ready (rs := [10]) (by kernel_rfl) (by simp) ?_
            refine AllReadyInH.cons rfl (fun K hK => ?_) AllReadyInH.nil
            go_simp
            refine hK.out _ _ HG7.out (fun hS => ?_)
            clear hK K
            try simp only [Act.put, List.setIfInBounds_toArray, List.set_cons_zero, List.set_cons_succ]
            refine wpAnyInH_done (by kernel_rfl) ?_ _
            clear hrun7 HR HFX6 hS
            have HX7 := Lib.hid (HX6.out.but HG7.out (by have := HB2.out; have := HI.out.sz; omega))
            have HBT7 := Lib.hid (HBT6.out.trans HG7.out (fun i hi => .inl (by have hi : i = w.heap.size + 3 := hi; omega)))
            have hl7 := HV7.out.run HFF.out
            have d4 := HI7.out.bm.cell 0
            have d0 := HX7.out.cell 0
            have d3 := HX7.out.cell 3
            have dn := HI7.out.bn.cell 0
            simp only [List.getElem?_toArray, List.getElem?_cons_zero, List.getElem?_cons_succ] at d4 d0 d3 dn
            have gn := HI7.out.bn.frozen 0
            have e4 := HI7.out.bm.lt
            have e0 := HX7.out.lt
            have en := HI7.out.bn.lt
            cases a3 with
            | false =>
              have HND := Lib.hid (show needK F m a (j + 1) = needK F m a j from by rw [needK, ← HPG.out, HX1.out]; rfl)
              gi_wp2
              show leftP _ _ _ _ _ _ .normal _ _
              refine ⟨KeepsFrom.of_but HBT7.out (fun i hi => by omega), KpP.of_but HBT7.out (fun i hi => hi.2), ?_⟩
              show MI w w.heap.size sb a m _ (pre ++ [(⟨pg, of, fr, nn⟩ : Pc)]).length _ _ _
              rw [HPL1.out, HND.out]
              exact HI7.out.mono (by omega)
            | true =>
              by_cases hr1 : 1 < r
              · have HND := Lib.hid (show needK F m a (j + 1) = needK F m a j + 1 from by rw [needK, ← HPG.out, HX1.out]; exact congrArg _ (if_pos ⟨rfl, by rw [HRQ.out]; exact hr1⟩))
                have hnl := needK_le F m a j
                have hjl := HJL.out
                have hI8 := HI7.out.need (needK F m a j + 1)
                have hx8 := HX7.out.far (p := ⟨w.heap.size + 2, 0, none⟩) (by show B2 ≠ w.heap.size + 2; have := HB2.out; omega) (.int .i64 ((needK F m a j + 1 : Nat) : Int))
                have hbt8 := HBT7.out.setCell (p := ⟨w.heap.size + 2, 0, none⟩) (.inl ⟨by show w.heap.size ≤ w.heap.size + 2; omega, by show w.heap.size + 2 < w.heap.size + 6; omega⟩) (.int .i64 ((needK F m a j + 1 : Nat) : Int))
                have hv8 := HV7.out.need (p := ⟨w.heap.size + 2, 0, none⟩) (by show w.heap.size + 3 ≠ w.heap.size + 2; omega) (.int .i64 ((needK F m a j + 1 : Nat) : Int))
                rw [show ((needK F m a j + 1 : Nat) : Int) = ((needK F m a j : Nat) : Int) + 1 by omega] at hI8 hx8 hbt8 hv8
                obtain ⟨W9, hrun9, hI9, hg9, hv9⟩ := hI8.put (by omega) HFF.out (r - 1) (by omega) (j := j) (k' := j + 1) (by omega) (by rw [← HPG.out]; exact HX1.out) rfl (by omega) HOKJ.out
                have hl8 := hv8.run HFF.out
                have q4 := hI8.bm.cell 0
                have q0 := hx8.cell 0
                simp only [List.getElem?_toArray, List.getElem?_cons_zero, List.getElem?_cons_succ] at q4 q0
                have HI9 := Lib.hid hI9
                have HBT9 := Lib.hid (hbt8.trans (show But (fun i => i = w.heap.size + 3) _ W9 from ⟨hg9.os, hg9.tape, hg9.output, hg9.size, fun i hi hn => hg9.block i hi (fun e => hn (by injection e))⟩) (fun i hi => .inl (by have hi : i = w.heap.size + 3 := hi; omega)))
                clear hI8 hx8 hbt8 hv8 hI9 hg9 hv9
                gi_wp2
                show leftP _ _ _ _ _ _ .normal _ _
                refine ⟨KeepsFrom.of_but HBT9.out (fun i hi => by omega), KpP.of_but HBT9.out (fun i hi => hi.2), ?_⟩
                show MI w w.heap.size sb a m _ (pre ++ [(⟨pg, of, fr, nn⟩ : Pc)]).length _ _ _
                rw [HPL1.out, HND.out]
                exact HI9.out.mono (by omega)
              · have HND := Lib.hid (show needK F m a (j + 1) = needK F m a j from by rw [needK, ← HPG.out, HX1.out]; exact congrArg _ (if_neg (fun h => hr1 (by rw [← HRQ.out]; exact h.2))))
                gi_wp2
                show leftP _ _ _ _ _ _ .normal _ _
                refine ⟨KeepsFrom.of_but HBT7.out (fun i hi => by omega), KpP.of_but HBT7.out (fun i hi => hi.2), ?_⟩
                show MI w w.heap.size sb a m _ (pre ++ [(⟨pg, of, fr, nn⟩ : Pc)]).length _ _ _
                rw [HPL1.out, HND.out]
                exact HI7.out.mono (by omega)
        · have hw1 : wr = true := by cases wr <;> simp_all
          have ha1 : a1 = false := by cases a1 <;> simp_all
          subst hw1
          subst ha1
          clear hwr
          gi_wp2
          show leftP _ _ _ _ _ _ (.exit 0) _ _
          obtain ⟨q1, q2, _, q3⟩ := HNO.out _ rfl
          refine ⟨q1, q2, ⟨rfl, q3⟩, ?_⟩
          rw [HPL1.out]
          intro hk
          obtain ⟨x', hx', hw'⟩ := hk j (by omega)
          rw [← HPG.out, HO.out] at hx'
          cases hx'
          have := hw' rfl
          cases this
  case done =>
    rintro D xs W hD rfl hI hK
    have c2 := hI.bn.cell 0
    have c5 := hI.bf.cell 0
    simp only [List.getElem?_toArray, List.getElem?_cons_zero] at c2 c5
    have l2 := hI.bn.lt
    have l5 := hI.bf.lt
    gi_wp2
    gi_region
    gi_wp2
    rw [Exit.noGoto_ret]
    refine ⟨by simp, .inl ⟨_, _, rfl, run_takeDeferred hK, ?_⟩⟩
    refine ⟨_, results_tmp2 rfl _ _ _, .inr ⟨?_, ?_⟩, hI.lo.trans ((Below.refl _ W).drew.trans (belowK_b (w := w) (Nat.le_refl _) W.drew D _ _ (by omega) hK rfl rfl))⟩
    · unfold pcs; rw [pcN_len]; rfl
    · have := hI.ok
      unfold pcs at this
      rw [pcN_len] at this
      exact this
  case stop =>
    rintro D c pre W hD hSp ⟨⟨rfl, h8, hlo, ⟨v, hv⟩, hf⟩, hnok⟩ hK
    have c2 := hv.cell 0
    have c5 := hf.cell 0
    simp only [List.getElem?_toArray, List.getElem?_cons_zero] at c2 c5
    have l2 := hv.lt
    have l5 := hf.lt
    gi_wp2
    gi_region
    gi_wp2
    rw [Exit.noGoto_ret]
    refine ⟨by simp, .inl ⟨_, _, rfl, run_takeDeferred hK, ?_⟩⟩
    exact ⟨_, results_tmp2 rfl _ _ _, .inl ⟨v, rfl, fun hk => hnok (fun i hi => hk i (by have := hSp.length_le; unfold pcs at this; rw [pcN_len] at this; omega))⟩, hlo.trans ((Below.refl _ W).drew.trans (belowK_b (w := w) (Nat.le_refl _) W.drew D _ _ (by omega) hK rfl rfl))⟩
theorem spMay_any (h : FS w fb lb cap F sb bt q m) (hok : SpOk F m) (a k : Nat) (wr : Bool) (ha : a < 4294967296) (hk : k ≤ 4096) :
    Calls Try.prog 35 #[.pointer (some ⟨sb, 0, none⟩), .int .u32 a, .int .i64 k, .bool wr] w fun e w' =>
      ((∃ v, e = .returned (.tuple #[.int .i64 v, .bool false]) ∧ ¬ okK m a wr (pcJ a k)) ∨ (e = .returned (.tuple #[.int .i64 (needK F m a (pcJ a k) : Nat), .bool true]) ∧ okK m a wr (pcJ a k))) ∧ Below w.heap.size w w' :=
  callsIn_wide.1 (spMay_in 6 (by omega) h hok a k wr ha hk)
theorem spMay_out (h : FS w fb lb cap F sb bt q m) (a n : Int) (wr : Bool) (hn : n < 0 ∨ 4096 < n) :
    Calls Try.prog 35 #[.pointer (some ⟨sb, 0, none⟩), .int .u32 a, .int .i64 n, .bool wr] w fun e w' => e = .returned (.tuple #[.int .i64 0, .bool false]) ∧ Below w.heap.size w w' :=
  callsIn_wide.1 (spMay_out_in 6 (by omega) h a n wr hn)
end
end Go.Proofs.Ytlecfdchmcghlaa
