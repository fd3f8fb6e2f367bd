/-
  Write of spaces. Condition: the space and the frames lie in blocks of their own; each page's frame is used, and of that page alone within the space; the bytes lie elsewhere.
-/
import Derived.Test.YtlecfdchmcghlaaSpWp
namespace Go.Proofs.Ytlecfdchmcghlaa
open Go.RowKit Go.Shelf
set_option linter.unusedVariables false
set_option linter.unusedSimpArgs false
attribute [local go_sem] Oper.semAt_some

theorem getElem?_of_drop {ops : Array Oper} {i : Nat} {o : Oper} {rest : List Oper} (h : ops.toList.drop i = o :: rest) : ops[i]? = some o := by
  have h1 := congrArg (fun l : List Oper => l[0]?) h
  simp only [List.getElem?_drop, Nat.add_zero, List.getElem?_cons_zero] at h1
  rwa [Array.getElem?_toList] at h1
theorem wpAnyInH_takeD {Fe : Fence} {n : Nat} {P : Program} {ops : Array Oper} {Q : Exit → Act → World → Prop} {md : Region.Mode} {S : World → Prop} {i : Nat} {oi : Oper} {rest : List Oper} {v : Value} {fuel : Nat} {listed : Array Bool} {a : Act} {w : World} (hi : ops.toList.drop i = oi :: rest)
    (hp : plainOps ops = true) (hf : Region.free md ops listed i = true) (hr : (Region.ready md ops listed).contains i = true)
    (hQ : ∀ c a w, Q (.panic c) (a.put oi.dst v) w → Q (.panic c) a w) (hab : ∀ w, oi.about P w a.eval = none) (hy : YieldsIf P ops S oi v a) (hS : S w)
    (h : wpAnyInH Fe n P md ops Q S fuel (listed.setIfInBounds i true) (a.put oi.dst v) w) : wpAnyInH Fe n P md ops Q S (fuel + 1) listed a w :=
  wpAnyInH_take (getElem?_of_drop hi) hp hf hr hQ hab hy hS h
theorem AllReadyInH.consD {Fe : Fence} {n : Nat} {P : Program} {ops : Array Oper} {Q : Exit → Act → World → Prop} {md : Region.Mode} {S : World → Prop} {fuel : Nat} {listed : Array Bool} {a : Act} {w : World} {i : Nat} {o : Oper} {rest : List Oper} {rs : List Nat} (ho : ops.toList.drop i = o :: rest)
    (h : ∀ K' : Act → World → Prop, Shut (∀ a w, S w → (S w → wpAnyInH Fe n P md ops Q S fuel (listed.setIfInBounds i true) a w) → K' a w) → if Region.wanted o (yielded ops a.tmps) = true then Oper.wpIn Fe n P o a w K' Q else (∀ f, o.about P w a.eval = some f → Fe.fn f) ∧ K' (a.put o.dst undef) w)
    (hs : AllReadyInH Fe n P md ops Q S fuel listed a w rs) : AllReadyInH Fe n P md ops Q S fuel listed a w (i :: rs) := AllReadyInH.cons (getElem?_of_drop ho) h hs
section
variable {w : World} {fb lb cap : Nat} {F : Fs} {sb bt : Nat} {q : Nat → Option Nat} {m : M}
theorem own_any (h : FS w fb lb cap F sb bt q m) (x : E) {fn : Nat} (hx : x.f = fn) (hfn : fn < F.n) (hfr : F.r fn ≠ 0) (hk : wants F x → ∃ k, freeK F = some k) :
    Calls Try.prog 38 #[.pointer (some ⟨sb, 0, none⟩), x.val] w fun e w' => e = .returned (ownE F x).val ∧ FrOut w w' fb lb cap (ownS F x) := by
  by_cases hw : wants F x
  · obtain ⟨k, hk0⟩ := hk hw
    have h1 := ownS_yes hw hk0
    have h2 : ownE F x = ⟨k, x.w, x.s, false, true⟩ := by unfold ownE; rw [ownI_yes hw hk0]
    rw [h1, h2]
    obtain ⟨f, a1, a2, a3, a4⟩ := x
    have hc : a3 = true := hw.1
    subst hc
    have hx : f = fn := hx
    have := own_two h f a1 a2 a4 hx hfn hfr hw.2 hk0
    show Calls _ _ _ _ (fun e w' => _ ∧ FrOut w w' fb lb cap (dropF (doubleF F f.toNat k) f))
    rw [show f.toNat = fn by omega]
    exact this
  · rw [ownS_not hw]
    have h2 : ownE F x = ⟨x.f, x.w, x.s, false, true⟩ := by unfold ownE; rw [ownI_not hw]
    rw [h2]
    obtain ⟨f, a1, a2, a3, a4⟩ := x
    cases a3 with
    | false => exact (own_not h f a1 a2 a4).mono fun e w' ⟨h1, h2⟩ => ⟨h1, h.f.below h2, But.of_below h2⟩
    | true =>
      have hr : refsI F f ≤ 1 := by
        by_cases hr : 1 < refsI F f
        · exact absurd ⟨rfl, hr⟩ hw
        · omega
      exact (own_one h f a1 a2 a4 hr).mono fun e w' ⟨h1, h2⟩ => ⟨h1, h.f.below h2, But.of_below h2⟩
theorem ownI_used {F : Fs} {x : E} {f : Nat} (hF : F.Ok) (hx : x.f = f) (hf : f < F.n) (hr0 : F.r f ≠ 0) (hk : wants F x → ∃ k, freeK F = some k) : ∃ g : Nat, ownI F x = g ∧ g < F.n ∧ (ownS F x).r g ≠ 0 ∧ (ownS F x).n = F.n := by
  by_cases hw : wants F x
  · obtain ⟨k, hk0⟩ := hk hw
    have hr1 : 1 < F.r f := by
      have := hw.2
      rw [hx, refsI_nat hf] at this
      omega
    obtain ⟨hkn, hkr⟩ := freeK_some hk0
    refine ⟨k, ownI_yes hw hk0, hkn, ?_, own_n hF hx hf hr1 hk0 hw.1⟩
    rw [own_r hF hx hf hr1 hk0 hw.1, if_neg (fun e => by rw [e] at hkr; omega), if_pos rfl]
    decide
  · refine ⟨f, (ownI_not hw).trans hx, hf, ?_, ?_⟩
    · rw [ownS_not hw]; exact hr0
    · rw [ownS_not hw]
/-- Write may turn the frames, and the table. -/
def WS (lb bt : Nat) (q : Nat → Option Nat) (k : Nat) : Prop := k = lb ∨ Own bt q k
theorem FS.belowB {W W' : World} {B : Nat} (h : FS W fb lb cap F sb bt q m) (hb : Below B W W') (h1 : fb < B) (h2 : lb < B) (h3 : sb < B) (h4 : ∀ k, Own bt q k → k < B) : FS W' fb lb cap F sb bt q m :=
  ⟨h.f.belowN hb h1 h2, ⟨h.s.p.below hb h3, ⟨h.s.t.top.below hb (h4 _ (.inl rfl)), fun i b hi hq => (h.s.t.part i b hi hq).below hb (h4 _ (.inr ⟨i, hi, hq⟩)), h.s.t.some_, h.s.t.none_, h.s.t.inj⟩, h.s.ne⟩, h.d1, h.d2, h.d3, h.d4⟩
/-- What lies while Write goes through pieces. -/
structure WI (w : World) (S0 N0 fb lb cap sb bt : Nat) (q : Nat → Option Nat) (u : Value) (s : Fs × M) (W : World) : Prop where
  bs : Blk W S0 24 #[.pointer (some ⟨sb, 0, none⟩)]
  bb : Blk W (S0 + 1) 50 #[u]
  fs : FS W fb lb cap s.1 sb bt q s.2
  bu : But (WS lb bt q) w W
  sz : N0 + 2 ≤ W.heap.size
theorem WI.below {W W' : World} {S0 N0 : Nat} {u : Value} {s : Fs × M} (h : WI w S0 N0 fb lb cap sb bt q u s W) (hw : w.heap.size ≤ S0) (hS : S0 + 2 ≤ N0) (h1 : fb < w.heap.size) (h2 : lb < w.heap.size) (h3 : sb < w.heap.size) (h4 : ∀ k, Own bt q k → k < w.heap.size) (hb : Below (N0 + 2) W W') : WI w S0 N0 fb lb cap sb bt q u s W' :=
  ⟨h.bs.below hb (by omega), h.bb.below hb (by omega), h.fs.belowB hb (by omega) (by omega) (by omega) (fun k hk => by have := h4 k hk; omega), h.bu.thenBelow hb (by omega), Nat.le_trans h.sz hb.size⟩
set_option maxRecDepth 100000 in
set_option maxHeartbeats 4000000 in
theorem spWrite_no_in (n : Nat) (hn : 14 ≤ n) (h : FS w fb lb cap F sb bt q m) (hok : SpOk F m) (a k : Nat) (ad : Option Addr) (c : Nat) (ha : a < 4294967296) (hk : k ≤ 4096) (hO : ¬ okK m a true (pcJ a k)) :
    CallsIn Fence.wide n Try.prog 21 #[.pointer (some ⟨sb, 0, none⟩), .int .u32 a, .slice ad k c] w fun e w' => e = .returned (.int .i64 14) ∧ Below w.heap.size w w' := by
  have h1 : 1 ≤ n := by omega
  have HN := Lib.hid (fun W hb => spMay_no (h.below (W := W) hb) hok a k true ha hk hO)
  clear h hok hO
  have x3 := (Blk.new w 24 #[.pointer (some ⟨sb, 0, none⟩)]).alloc (.cells #[.slice ad k c] 50)
  have x5 := Blk.new (w.alloc (.cells #[.pointer (some ⟨sb, 0, none⟩)] 24)) 50 #[.slice ad k c]
  rw [World.size_alloc] at x5
  have hb3 := bl_new (bl_new (Below.refl w.heap.size w) (.cells #[.pointer (some ⟨sb, 0, none⟩)] 24)) (.cells #[.slice ad k c] 50)
  have hs3 : ((w.alloc (.cells #[.pointer (some ⟨sb, 0, none⟩)] 24)).alloc (.cells #[.slice ad k c] 50)).heap.size = w.heap.size + 2 := by simp
  refine callsIn_of_wp Try.func21 rfl trivial ?_ rfl
  simp only [Try.ntmps21, List.size_toArray, List.length_cons, List.length_nil, Nat.reduceAdd, Nat.reduceSub, Array.replicate_succ, Array.replicate_zero, List.push_toArray, List.append_toArray, List.nil_append, List.cons_append]
  gi_wp2_with (fail)
  generalize ((w.alloc (.cells #[.pointer (some ⟨sb, 0, none⟩)] 24)).alloc (.cells #[.slice ad k c] 50)) = W0 at *
  have c3 := x3.cell 0
  have c5 := x5.cell 0
  simp only [List.getElem?_toArray, List.getElem?_cons_zero] at c3 c5
  have l3 := x3.lt
  have l5 := x5.lt
  have HX3 := Lib.hid x3
  have HX5 := Lib.hid x5
  have HB3 := Lib.hid hb3
  clear x3 x5 hb3
  gi_wp2_with (refine ⟨trivial, ?_⟩; gi_at_call 35; refine (callsIn_wide.2 (HN.out _ HB3.out)).mono ?_; rintro e W1 ⟨v, rfl, hb1⟩; have HBB := Lib.hid (bl_step HB3.out hb1))
  go_ret
  exact ⟨rfl, HBB.out⟩
set_option maxRecDepth 100000 in
set_option maxHeartbeats 4000000 in
theorem spWrite_few_in (n : Nat) (hn : 14 ≤ n) (h : FS w fb lb cap F sb bt q m) (hok : SpOk F m) (a k : Nat) (ad : Option Addr) (c : Nat) (ha : a < 4294967296) (hk : k ≤ 4096) (hO : okK m a true (pcJ a k)) (hf : freeN F < (needK F m a (pcJ a k) : Nat)) :
    CallsIn Fence.wide n Try.prog 21 #[.pointer (some ⟨sb, 0, none⟩), .int .u32 a, .slice ad k c] w fun e w' => e = .returned (.int .i64 12) ∧ Below w.heap.size w w' := by
  have h1 : 1 ≤ n := by omega
  have HN := Lib.hid (fun W hb => spMay_yes (h.below (W := W) hb) hok a k true ha hk hO)
  have HH := Lib.hid h
  clear h hok hO
  have x3 := (Blk.new w 24 #[.pointer (some ⟨sb, 0, none⟩)]).alloc (.cells #[.slice ad k c] 50)
  have x5 := Blk.new (w.alloc (.cells #[.pointer (some ⟨sb, 0, none⟩)] 24)) 50 #[.slice ad k c]
  rw [World.size_alloc] at x5
  have hb3 := bl_new (bl_new (Below.refl w.heap.size w) (.cells #[.pointer (some ⟨sb, 0, none⟩)] 24)) (.cells #[.slice ad k c] 50)
  have hs3 : ((w.alloc (.cells #[.pointer (some ⟨sb, 0, none⟩)] 24)).alloc (.cells #[.slice ad k c] 50)).heap.size = w.heap.size + 2 := by simp
  refine callsIn_of_wp Try.func21 rfl trivial ?_ rfl
  simp only [Try.ntmps21, List.size_toArray, List.length_cons, List.length_nil, Nat.reduceAdd, Nat.reduceSub, Array.replicate_succ, Array.replicate_zero, List.push_toArray, List.append_toArray, List.nil_append, List.cons_append]
  gi_wp2_with (fail)
  generalize ((w.alloc (.cells #[.pointer (some ⟨sb, 0, none⟩)] 24)).alloc (.cells #[.slice ad k c] 50)) = W0 at *
  have c3 := x3.cell 0
  have c5 := x5.cell 0
  simp only [List.getElem?_toArray, List.getElem?_cons_zero] at c3 c5
  have l3 := x3.lt
  have l5 := x5.lt
  have HX3 := Lib.hid x3
  have HX5 := Lib.hid x5
  have HB3 := Lib.hid hb3
  clear x3 x5 hb3
  gi_wp2_with (refine ⟨trivial, ?_⟩; first | (gi_at_call 35; refine (callsIn_wide.2 (HN.out _ HB3.out)).mono ?_; rintro e W1 ⟨rfl, hb1⟩; have HBB := Lib.hid (bl_step HB3.out hb1); have HX31 := Lib.hid (HX3.out.below hb1 HX3.out.lt); have HX51 := Lib.hid (HX5.out.below hb1 HX5.out.lt); have HF1 := Lib.hid (HH.out.below HBB.out); have c31 := HX31.out.cell 0; have c51 := HX51.out.cell 0; have y0 := HF1.out.s.p.cell 0; simp only [List.getElem?_toArray, List.getElem?_cons_zero] at c31 c51 y0; have l31 := HX31.out.lt; have l51 := HX51.out.lt; have ly := HF1.out.s.p.lt; have hs1 := hb1.size; rw [hs3] at hs1; clear hb1 c3 c5 l3 l5) | (gi_at_call 25; refine (callsIn_wide.2 (frFree_any HF1.out.f)).mono ?_; rintro e W2 ⟨rfl, hb2⟩; have HBC := Lib.hid (bl_step HBB.out hb2); have HX32 := Lib.hid (HX31.out.below hb2 HX31.out.lt); have HX52 := Lib.hid (HX51.out.below hb2 HX51.out.lt); have c52 := HX52.out.cell 0; simp only [List.getElem?_toArray, List.getElem?_cons_zero] at c52; have l52 := HX52.out.lt; have hs2 := hb2.size; clear hb2 c31 c51 y0 l31 l51 ly))
  go_ret
  exact ⟨rfl, HBC.out⟩
set_option maxRecDepth 100000 in
set_option maxHeartbeats 4000000 in
theorem spWrite_in (n : Nat) (hn : 14 ≤ n) (h : FS w fb lb cap F sb bt q m) (hok : SpOk F m) (a k : Nat) (ad : Option Addr) (c : Nat) (ha : a < 4294967296) (hk : k ≤ 4096) (hO : okK m a true (pcJ a k)) (hf : (needK F m a (pcJ a k) : Nat) ≤ freeN F) (bs : List Int) (hbl : bs.length = k) (hlow : ∀ x ∈ bs, 0 ≤ x ∧ x ≤ 255) (hsrc : 0 < k → ∃ g o : Nat, ad = some ⟨g, o, none⟩ ∧ g < w.heap.size ∧ ¬ WS lb bt q g ∧ ∀ (j : Nat) (v : Value), (bs.map fun x => Value.int .u8 x)[j]? = some v → w.cell? ⟨g, o + j, none⟩ = some v) (hcap : k ≤ c) :
    CallsIn Fence.wide n Try.prog 21 #[.pointer (some ⟨sb, 0, none⟩), .int .u32 a, .slice ad k c] w fun e w' => e = .returned (.int .i64 0) ∧ FS w' fb lb cap (writeGo F m a k bs (pcJ a k)).1 sb bt q (writeGo F m a k bs (pcJ a k)).2 ∧ But (WS lb bt q) w w' := by
  have h1 : 1 ≤ n := by omega
  have HN := Lib.hid (fun W hb => spMay_yes (h.below (W := W) hb) hok a k true ha hk hO)
  have HH := Lib.hid h
  have HOK := Lib.hid hok
  have HYES := Lib.hid hO
  have HLOW := Lib.hid hlow
  have HSRC := Lib.hid hsrc
  have hnf : ¬ freeN F < ((needK F m a (pcJ a k) : Nat) : Int) := by omega
  have HL1 := Lib.hid h.f.lt.1
  have HL2 := Lib.hid h.f.lt.2
  have HL3 := Lib.hid h.s.p.lt
  have HL4 := Lib.hid (fun k hk => h.s.t.own_lt (k := k) hk)
  have HFN := Lib.hid hf
  clear h hok hO hlow hsrc hf
  have x3 := (Blk.new w 24 #[.pointer (some ⟨sb, 0, none⟩)]).alloc (.cells #[.slice ad k c] 50)
  have x5 := Blk.new (w.alloc (.cells #[.pointer (some ⟨sb, 0, none⟩)] 24)) 50 #[.slice ad k c]
  rw [World.size_alloc] at x5
  have hb3 := bl_new (bl_new (Below.refl w.heap.size w) (.cells #[.pointer (some ⟨sb, 0, none⟩)] 24)) (.cells #[.slice ad k c] 50)
  have hs3 : ((w.alloc (.cells #[.pointer (some ⟨sb, 0, none⟩)] 24)).alloc (.cells #[.slice ad k c] 50)).heap.size = w.heap.size + 2 := by simp
  refine callsIn_of_wp_marks Try.func21 rfl trivial ?_ rfl
  simp only [Try.ntmps21, List.size_toArray, List.length_cons, List.length_nil, Nat.reduceAdd, Nat.reduceSub, Array.replicate_succ, Array.replicate_zero, List.push_toArray, List.append_toArray, List.nil_append, List.cons_append]
  gi_wp2_with (fail)
  generalize ((w.alloc (.cells #[.pointer (some ⟨sb, 0, none⟩)] 24)).alloc (.cells #[.slice ad k c] 50)) = W0 at *
  have c3 := x3.cell 0
  have c5 := x5.cell 0
  simp only [List.getElem?_toArray, List.getElem?_cons_zero] at c3 c5
  have l3 := x3.lt
  have l5 := x5.lt
  have HX3 := Lib.hid x3
  have HX5 := Lib.hid x5
  have HB3 := Lib.hid hb3
  clear x3 x5 hb3
  gi_wp2_with (refine ⟨trivial, ?_⟩; first | (gi_at_call 35; refine (callsIn_wide.2 (HN.out _ HB3.out)).mono ?_; rintro e W1 ⟨rfl, hb1⟩; have HBB := Lib.hid (bl_step HB3.out hb1); have HX31 := Lib.hid (HX3.out.below hb1 HX3.out.lt); have HX51 := Lib.hid (HX5.out.below hb1 HX5.out.lt); have HF1 := Lib.hid (HH.out.below HBB.out); have c31 := HX31.out.cell 0; have c51 := HX51.out.cell 0; have y0 := HF1.out.s.p.cell 0; simp only [List.getElem?_toArray, List.getElem?_cons_zero] at c31 c51 y0; have l31 := HX31.out.lt; have l51 := HX51.out.lt; have ly := HF1.out.s.p.lt; have hs1 := hb1.size; rw [hs3] at hs1; clear hb1 c3 c5 l3 l5) | (gi_at_call 25; refine (callsIn_wide.2 (frFree_any HF1.out.f)).mono ?_; rintro e W2 ⟨rfl, hb2⟩; have HBC := Lib.hid (bl_step HBB.out hb2); have HX32 := Lib.hid (HX31.out.below hb2 HX31.out.lt); have HX52 := Lib.hid (HX51.out.below hb2 HX51.out.lt); have c52 := HX52.out.cell 0; simp only [List.getElem?_toArray, List.getElem?_cons_zero] at c52; have l52 := HX52.out.lt; have hs2 := hb2.size; clear hb2 c31 c51 y0 l31 l51 ly) | (gi_at_call 36; refine (pieces_in (n - 1) _ _ _).mono ?_; rintro e w' ⟨rfl, rfl⟩))
  try simp only [Nat.add_assoc, Nat.reduceAdd]
  have ba := (Blk.new W2 26 #[.int .u32 (a : Int)]).alloc (.cells #[.int .i64 (k : Int)] 3)
  have bn := Blk.new (W2.alloc (.cells #[.int .u32 (a : Int)] 26)) 3 #[.int .i64 (k : Int)]
  have b3 := (HX32.out.alloc (.cells #[.int .u32 (a : Int)] 26)).alloc (.cells #[.int .i64 (k : Int)] 3)
  have b5 := (HX52.out.alloc (.cells #[.int .u32 (a : Int)] 26)).alloc (.cells #[.int .i64 (k : Int)] 3)
  have hbb := bl_new (bl_new HBC.out (.cells #[.int .u32 (a : Int)] 26)) (.cells #[.int .i64 (k : Int)] 3)
  have hs8 : ((W2.alloc (.cells #[.int .u32 (a : Int)] 26)).alloc (.cells #[.int .i64 (k : Int)] 3)).heap.size = W2.heap.size + 2 := by simp
  simp only [World.size_alloc, Nat.add_assoc, Nat.reduceAdd] at ba bn
  generalize (W2.alloc (.cells #[.int .u32 (a : Int)] 26)).alloc (.cells #[.int .i64 (k : Int)] 3) = W4 at *
  clear HX32 HX52 HBC HX31 HX51 HBB HF1 c52 l52 HX3 HX5 HB3
  generalize W2.heap.size = N0 at *
  have HSZ := Lib.hid (show w.heap.size + 2 ≤ N0 from by omega)
  have hWI : WI w w.heap.size N0 fb lb cap sb bt q (.slice ad k c) (writeGo F m a k bs 0) W4 ∧ WL F m a (pcJ a k) 0 (writeGo F m a k bs 0) :=
    ⟨⟨b3, b5, HH.out.below hbb, But.of_below hbb, by omega⟩, WL.start F m a (pcJ a k)⟩
  clear b3 b5 hbb hs1 hs2
  refine wpIn_rangeFunc_PA rfl h1 (gf := 57) (lb := #[.pointer (some ⟨N0 + 1, 0, none⟩), .pointer (some ⟨N0, 0, none⟩)]) rfl trivial (enters_of Try.func57 (by kernel_rfl) rfl)
    (fun W hb hs => pieces_seq (n - 1) (by omega) _ N0 (N0 + 1) N0 a k ha hk W (bn.below hb bn.lt) (ba.below hb ba.lt) (by omega) (by omega))
    kpP_t (fun W r o' hl => kpP_b (w := W4) W _ _ o' (by omega) hl rfl rfl) (fun _ => rfl) (N0 + 2) hs8
    (fun pre W => WI w w.heap.size N0 fb lb cap sb bt q (.slice ad k c) (writeGo F m a k bs pre.length) W ∧ WL F m a (pcJ a k) pre.length (writeGo F m a k bs pre.length)) (fun _ _ _ => False)
    (fun s W h => h.1.sz) (fun s W W' h hb => ⟨h.1.below (Nat.le_refl _) HSZ.out HL1.out HL2.out HL3.out HL4.out hb, h.2⟩) (fun _ _ _ h => h.elim) (fun _ _ _ _ h _ => h.elim) hWI
    88 (fun x => #[.int .i64 x.page, .int .i64 x.off, .int .i64 x.from_, .int .i64 x.n]) (fun x b => [(35, .agg #[.int .i64 x.page, .int .i64 x.off, .int .i64 x.from_, .int .i64 x.n]), (9, .pointer (some ⟨b, 0, none⟩))])
    ?assign ?body ?done (fun _ _ _ _ _ _ h _ => h.elim)
  case assign =>
    rintro l pre x W K hI hR hK
    obtain ⟨pg, of, fr, nn⟩ := x
    simp only [encPc] at hK ⊢
    gi_wp2
    exact hK _ _ ((KeepsOthers.alloc _ _).from _) (KpP.of_below ((Below.refl _ W).alloc (Nat.le_refl _) _)) ⟨hI.1.below (Nat.le_refl _) HSZ.out HL1.out HL2.out HL3.out HL4.out ((Below.refl _ W).alloc hI.1.sz _), hI.2⟩ trivial ⟨W.heap.size, hI.1.sz, Blk.new W _ _, rfl⟩
  case body =>
    rintro l pre x Bx W hl ⟨r, hr⟩ ⟨hI, hWL⟩ hR hBx bX hlen
    obtain ⟨j, hpre, hx, hjk⟩ := hR
    have HPRE := Lib.hid (show pre.length = j from by rw [hpre, pcN_len])
    have hcl := cutB_len hbl hjk
    rw [← hx] at hcl
    have HPG := Lib.hid (show x.page = a / 64 + j from by rw [hx]; exact frK_page hjk)
    have HXK := Lib.hid hx
    have HJJ := Lib.hid ((pcJ_iff a k j).1 hjk)
    have HON := Lib.hid (show x.off < 64 ∧ x.off + x.n ≤ 64 ∧ 0 < x.n ∧ x.from_ + x.n ≤ k from by
      rw [hx]
      show (a + frK a k j) % 64 < 64 ∧ (a + frK a k j) % 64 + min (k - frK a k j) (64 - (a + frK a k j) % 64) ≤ 64 ∧ 0 < min (k - frK a k j) (64 - (a + frK a k j) % 64) ∧ frK a k j + min (k - frK a k j) (64 - (a + frK a k j) % 64) ≤ k
      omega)
    rw [HPRE.out] at hI hWL
    obtain ⟨x5, hlx, hxw⟩ := HYES.out j HJJ.out
    have hp64 : a / 64 + j < 64 := by
      have := hlx
      unfold look at this
      split at this
      · omega
      · cases this
    have hmp := hlx
    rw [look_in m hp64] at hmp
    obtain ⟨hst, hfre⟩ := hWL.step (bs := bs) HOK.out HH.out.f.ok (pcJ_le hk) hI.fs.f.ok HJJ.out HYES.out hmp hp64 HFN.out
    have hgp := (hWL.page j (Nat.le_refl _)).trans hmp
    have HSU := Lib.hid (writeGo_succ hgp)
    obtain ⟨fn, hfn0, hfl, hfr⟩ := HOK.out.used _ _ hp64 hmp
    have hfl' : fn < (writeGo F m a k bs j).1.n := by rw [hWL.n]; exact hfl
    have hfr' : (writeGo F m a k bs j).1.r fn ≠ 0 := by
      have := hWL.r j _ (Nat.le_refl _) HJJ.out hmp
      rw [hfn0, Int.toNat_natCast] at this
      rw [this]
      exact hfr
    have HCUT := Lib.hid (show cutB bs a k j = (bs.drop x.from_).take x.n from by rw [hx]; rfl)
    have HWL1 := Lib.hid hst
    clear hWL hpre hx hlx hst hfl hfr
    generalize hG : writeGo F m a k bs j = G at *
    generalize hCB : cutB bs a k j = cb at *
    have hxw := hxw rfl
    obtain ⟨pg, of, fr, nn⟩ := x
    obtain ⟨f, a1, a2, a3, a4⟩ := x5
    simp only at bX HON HPG hxw hfn0 hcl HCUT
    subst hxw
    rw [← HPG.out] at hgp hp64
    have HP64 := Lib.hid hp64
    have HGP := Lib.hid hgp
    have HFN0 := Lib.hid hfn0
    have HFL := Lib.hid hfl'
    have HFR := Lib.hid hfr'
    have HFRE := Lib.hid hfre
    have HCL := Lib.hid hcl
    have HI := Lib.hid hI
    have HBX := Lib.hid bX
    have HPL1 := Lib.hid (show (pre ++ [(⟨pg, of, fr, nn⟩ : Pc)]).length = j + 1 from by rw [List.length_append, HPRE.out]; rfl)
    have HW := Lib.hid (fun W1 (hb : Below W.heap.size W W1) => hI.fs.below hb)
    have HFX := Lib.hid (fun W1 (hb : Below W.heap.size W W1) => (show W1.cell? ⟨w.heap.size, 0, none⟩ = some (.pointer (some ⟨sb, 0, none⟩)) ∧ W1.cell? ⟨sb, 1, none⟩ = some (.pointer (some ⟨bt, 0, none⟩)) ∧ W1.cell? ⟨Bx, 0, none⟩ = some (.int .i64 ((pg : Nat) : Int)) from
      ⟨(hI.bs.below hb hI.bs.lt).cell 0, (HW.out W1 hb).s.p.cell 1, (bX.below hb bX.lt).cell 0⟩))
    obtain ⟨ib, hib⟩ : ∃ ib : Bool, true = ib := ⟨_, rfl⟩
    obtain ⟨a1, ha1⟩ : ∃ a1 : Bool, true = a1 := ⟨_, rfl⟩
    have HG := Lib.hid (fun W1 (hb : Below W.heap.size W W1) => (show Calls Try.prog 37 #[.pointer (some ⟨bt, 0, none⟩), .int .i64 ((pg : Nat) : Int)] W1 fun e w' => e = .returned (.tuple #[.agg #[.int .i64 f, .bool a1, .bool a2, .bool a3, .bool a4], .bool ib]) ∧ Below W1.heap.size W1 w' from by
      have := get_any (HW.out W1 hb).s.t ((pg : Nat) : Int)
      rw [look_in _ HP64.out, HGP.out] at this
      rw [← hib, ← ha1]
      exact this))
    have HA1 := Lib.hid ha1
    clear hI bX hib ha1 hgp hp64 hfn0 hfl' hfr' hfre hmp hcl
    simp only [setL, List.setIfInBounds_toArray, List.set_cons_zero, List.set_cons_succ]
    gi_wp2_with (fail)
    refine region_then (fun T a' W' => ∃ B2, Below W.heap.size W W' ∧ W.heap.size ≤ B2 ∧ Blk W' B2 71 #[.int .i64 f, .bool a1, .bool a2, .bool a3, .bool a4] ∧ a' = ⟨setL T [(37, .pointer (some ⟨sb, 0, none⟩)), (38, .pointer (some ⟨sb, 0, none⟩)), (39, .pointer (some ⟨sb, 1, none⟩)), (40, .pointer (some ⟨bt, 0, none⟩)), (41, .pointer (some ⟨Bx, 0, none⟩)), (42, .int .i64 ((pg : Nat) : Int)), (43, .tuple #[.agg #[.int .i64 f, .bool a1, .bool a2, .bool a3, .bool a4], .bool ib]), (36, .tuple #[.agg #[.int .i64 f, .bool a1, .bool a2, .bool a3, .bool a4], .bool ib]), (44, .agg #[.int .i64 f, .bool a1, .bool a2, .bool a3, .bool a4]), (45, .bool ib), (10, .pointer (some ⟨B2, 0, none⟩)), (11, .bool ib)], []⟩) ?reg ?rest
    case reg =>
      refine wpIn_region_heldN (S := fun w' => Below W.heap.size W w') (by kernel_rfl) ((Below.refl W.heap.size W).drew) (fun hS => ?_)
      refine wpAnyInH_take (i := 0) (v := ?_) rfl (by kernel_rfl) (by kernel_rfl) (by kernel_rfl) (fun _ _ _ h => h) (fun _ => rfl) (Or.inl ⟨by kernel_rfl, ?_⟩) hS ?_
      rotate_left 1
      · intro w hS
        obtain ⟨d0, d1, d2⟩ := HFX.out w hS
        go_simp
        all_goals with_reducible rfl
      try simp only [Act.put, List.setIfInBounds_toArray, List.set_cons_zero, List.set_cons_succ]
      refine wpAnyInH_take (i := 1) (v := ?_) rfl (by kernel_rfl) (by kernel_rfl) (by kernel_rfl) (fun _ _ _ h => h) (fun _ => rfl) (Or.inl ⟨by kernel_rfl, ?_⟩) hS ?_
      rotate_left 1
      · intro w hS
        obtain ⟨d0, d1, d2⟩ := HFX.out w hS
        go_simp
        all_goals with_reducible rfl
      try simp only [Act.put, List.setIfInBounds_toArray, List.set_cons_zero, List.set_cons_succ]
      refine wpAnyInH_take (i := 2) (v := ?_) rfl (by kernel_rfl) (by kernel_rfl) (by kernel_rfl) (fun _ _ _ h => h) (fun _ => rfl) (Or.inl ⟨by kernel_rfl, ?_⟩) hS ?_
      rotate_left 1
      · intro w hS
        obtain ⟨d0, d1, d2⟩ := HFX.out w hS
        go_simp
        all_goals with_reducible rfl
      try simp only [Act.put, List.setIfInBounds_toArray, List.set_cons_zero, List.set_cons_succ]
      refine wpAnyInH_take (i := 3) (v := ?_) rfl (by kernel_rfl) (by kernel_rfl) (by kernel_rfl) (fun _ _ _ h => h) (fun _ => rfl) (Or.inl ⟨by kernel_rfl, ?_⟩) hS ?_
      rotate_left 1
      · intro w hS
        obtain ⟨d0, d1, d2⟩ := HFX.out w hS
        go_simp
        all_goals with_reducible rfl
      try simp only [Act.put, List.setIfInBounds_toArray, List.set_cons_zero, List.set_cons_succ]
      refine wpAnyInH_take (i := 4) (v := ?_) rfl (by kernel_rfl) (by kernel_rfl) (by kernel_rfl) (fun _ _ _ h => h) (fun _ => rfl) (Or.inl ⟨by kernel_rfl, ?_⟩) hS ?_
      rotate_left 1
      · intro w hS
        obtain ⟨d0, d1, d2⟩ := HFX.out w hS
        go_simp
        all_goals with_reducible rfl
      try simp only [Act.put, List.setIfInBounds_toArray, List.set_cons_zero, List.set_cons_succ]
      refine wpAnyInH_take (i := 5) (v := ?_) rfl (by kernel_rfl) (by kernel_rfl) (by kernel_rfl) (fun _ _ _ h => h) (fun _ => rfl) (Or.inl ⟨by kernel_rfl, ?_⟩) hS ?_
      rotate_left 1
      · intro w hS
        obtain ⟨d0, d1, d2⟩ := HFX.out w hS
        go_simp
        all_goals with_reducible rfl
      try simp only [Act.put, List.setIfInBounds_toArray, List.set_cons_zero, List.set_cons_succ]
      refine wpAnyInH_ready (rs := [6, 10]) (by kernel_rfl) (by simp) ?_
      refine AllReadyInH.cons rfl (fun K hK => ?_) (AllReadyInH.cons rfl (fun K hK => ?_) AllReadyInH.nil)

      · skip
        go_simp
        refine ⟨trivial, fun _ => by omega, (callsIn_wide.2 (HG.out _ hS)).mono ?_⟩
        rintro e V ⟨rfl, hbV⟩
        refine hK.out _ _ (bl_step hS hbV) (fun hS => ?_)
        clear hK K
        try simp only [Act.put, List.setIfInBounds_toArray, List.set_cons_zero, List.set_cons_succ]
        have hVs : W.heap.size ≤ V.heap.size := hS.size
        refine wpAnyInH_take (i := 7) (v := ?_) rfl (by kernel_rfl) (by kernel_rfl) (by kernel_rfl) (fun _ _ _ h => h) (fun _ => rfl) (Or.inl ⟨by kernel_rfl, ?_⟩) hS ?_
        rotate_left 1
        · intro w hS
          go_simp
          all_goals with_reducible rfl
        try simp only [Act.put, List.setIfInBounds_toArray, List.set_cons_zero, List.set_cons_succ]
        refine wpAnyInH_take (i := 8) (v := ?_) rfl (by kernel_rfl) (by kernel_rfl) (by kernel_rfl) (fun _ _ _ h => h) (fun _ => rfl) (Or.inl ⟨by kernel_rfl, ?_⟩) hS ?_
        rotate_left 1
        · intro w hS
          go_simp
          all_goals with_reducible rfl
        try simp only [Act.put, List.setIfInBounds_toArray, List.set_cons_zero, List.set_cons_succ]
        refine wpAnyInH_take (i := 9) (v := ?_) rfl (by kernel_rfl) (by kernel_rfl) (by kernel_rfl) (fun _ _ _ h => h) (fun _ => rfl) (Or.inl ⟨by kernel_rfl, ?_⟩) hS ?_
        rotate_left 1
        · intro w hS
          go_simp
          all_goals with_reducible rfl
        try simp only [Act.put, List.setIfInBounds_toArray, List.set_cons_zero, List.set_cons_succ]
        refine wpAnyInH_ready (rs := [10]) (by kernel_rfl) (by simp) ?_
        refine AllReadyInH.cons rfl (fun K hK => ?_) AllReadyInH.nil
        go_simp
        refine hK.out _ _ (bl_new hS _) (fun hS => ?_)
        clear hK K
        try simp only [Act.put, List.setIfInBounds_toArray, List.set_cons_zero, List.set_cons_succ]
        refine wpAnyInH_ready (rs := [11]) (by kernel_rfl) (by simp) ?_
        refine AllReadyInH.cons rfl (fun K hK => ?_) AllReadyInH.nil
        go_simp
        refine hK.out _ _ (bl_new (by assumption) _) (fun hS => ?_)
        clear hK K
        try simp only [Act.put, List.setIfInBounds_toArray, List.set_cons_zero, List.set_cons_succ]
        refine wpAnyInH_take (i := 12) (v := ?_) rfl (by kernel_rfl) (by kernel_rfl) (by kernel_rfl) (fun _ _ _ h => h) (fun _ => rfl) (Or.inl ⟨by kernel_rfl, ?_⟩) hS ?_
        rotate_left 1
        · intro w hS
          go_simp
          all_goals with_reducible rfl
        try simp only [Act.put, List.setIfInBounds_toArray, List.set_cons_zero, List.set_cons_succ]
        refine wpAnyInH_done (by kernel_rfl) ?_ _
        refine ⟨V.heap.size, hS, hVs, Blk.new V _ _, ?_⟩
        simp only [setL, List.setIfInBounds_toArray, List.set_cons_zero, List.set_cons_succ]
        go_simp
      · skip
        go_simp
        refine hK.out _ _ (bl_new hS _) (fun hS => ?_)
        clear hK K
        try simp only [Act.put, List.setIfInBounds_toArray, List.set_cons_zero, List.set_cons_succ]
        refine wpAnyInH_ready (rs := [6]) (by kernel_rfl) (by simp) ?_
        refine AllReadyInH.cons rfl (fun K hK => ?_) AllReadyInH.nil
        go_simp
        refine ⟨trivial, fun _ => by omega, (callsIn_wide.2 (HG.out _ hS)).mono ?_⟩
        rintro e V ⟨rfl, hbV⟩
        refine hK.out _ _ (bl_step hS hbV) (fun hS => ?_)
        clear hK K
        try simp only [Act.put, List.setIfInBounds_toArray, List.set_cons_zero, List.set_cons_succ]
        refine wpAnyInH_take (i := 7) (v := ?_) rfl (by kernel_rfl) (by kernel_rfl) (by kernel_rfl) (fun _ _ _ h => h) (fun _ => rfl) (Or.inl ⟨by kernel_rfl, ?_⟩) hS ?_
        rotate_left 1
        · intro w hS
          go_simp
          all_goals with_reducible rfl
        try simp only [Act.put, List.setIfInBounds_toArray, List.set_cons_zero, List.set_cons_succ]
        refine wpAnyInH_take (i := 8) (v := ?_) rfl (by kernel_rfl) (by kernel_rfl) (by kernel_rfl) (fun _ _ _ h => h) (fun _ => rfl) (Or.inl ⟨by kernel_rfl, ?_⟩) hS ?_
        rotate_left 1
        · intro w hS
          go_simp
          all_goals with_reducible rfl
        try simp only [Act.put, List.setIfInBounds_toArray, List.set_cons_zero, List.set_cons_succ]
        refine wpAnyInH_take (i := 9) (v := ?_) rfl (by kernel_rfl) (by kernel_rfl) (by kernel_rfl) (fun _ _ _ h => h) (fun _ => rfl) (Or.inl ⟨by kernel_rfl, ?_⟩) hS ?_
        rotate_left 1
        · intro w hS
          go_simp
          all_goals with_reducible rfl
        try simp only [Act.put, List.setIfInBounds_toArray, List.set_cons_zero, List.set_cons_succ]
        have z := (show Blk V W.heap.size 71 E.zero.arr from (Blk.new W.drew 71 E.zero.arr).below hbV (by simp))
        have z0 := z.cell 0
        have z1 := z.cell 1
        have z2 := z.cell 2
        have z3 := z.cell 3
        have z4 := z.cell 4
        simp only [E.zero, E.arr, List.getElem?_toArray, List.getElem?_cons_zero, List.getElem?_cons_succ] at z0 z1 z2 z3 z4
        have g0 := z.frozen 0
        have g1 := z.frozen 1
        have g2 := z.frozen 2
        have g3 := z.frozen 3
        have g4 := z.frozen 4
        have zl := z.lt
        refine wpAnyInH_ready (rs := [11]) (by kernel_rfl) (by simp) ?_
        refine AllReadyInH.cons rfl (fun K hK => ?_) AllReadyInH.nil
        go_simp
        refine hK.out _ _ ((But.entrySet (S := fun _ => False) (But.of_below hS) (b := W.heap.size) (.inr (Nat.le_refl _)) _ _ _ _ _).below (fun _ h => h.elim) (Nat.le_refl _)) (fun hS => ?_)
        clear hK K
        try simp only [Act.put, List.setIfInBounds_toArray, List.set_cons_zero, List.set_cons_succ]
        refine wpAnyInH_take (i := 12) (v := ?_) rfl (by kernel_rfl) (by kernel_rfl) (by kernel_rfl) (fun _ _ _ h => h) (fun _ => rfl) (Or.inl ⟨by kernel_rfl, ?_⟩) hS ?_
        rotate_left 1
        · intro w hS
          go_simp
          all_goals with_reducible rfl
        try simp only [Act.put, List.setIfInBounds_toArray, List.set_cons_zero, List.set_cons_succ]
        refine wpAnyInH_done (by kernel_rfl) ?_ _
        refine ⟨W.heap.size, hS, Nat.le_refl _, z.entrySet (x := E.zero) _ _ _ _ _, ?_⟩
        simp only [setL, List.setIfInBounds_toArray, List.set_cons_zero, List.set_cons_succ]
        go_simp
    case rest =>
      rintro a' W5 ⟨B2, hb5, hB2, bx5, rfl⟩
      simp only [setL, List.setIfInBounds_toArray, List.set_cons_zero, List.set_cons_succ]
      have hI5bs := HI.out.bs.below hb5 HI.out.bs.lt
      have hI5bb := HI.out.bb.below hb5 HI.out.bb.lt
      have HXP := Lib.hid (HBX.out.below hb5 HBX.out.lt)
      have HF5 := Lib.hid (HW.out W5 hb5)
      have hbt5 := But.of_below (S := WS lb bt q) hb5
      have HS5 := Lib.hid hI5bs
      have HB5 := Lib.hid hI5bb
      have HBT5 := Lib.hid hbt5
      have HX5 := Lib.hid bx5
      have HWN := Lib.hid (show N0 + 2 ≤ W.heap.size from HI.out.sz)
      have HB2 := Lib.hid hB2
      have d0 := hI5bs.cell 0
      have e0 := bx5.cell 0
      have e1 := bx5.cell 1
      have e2 := bx5.cell 2
      have e3 := bx5.cell 3
      have e4 := bx5.cell 4
      simp only [List.getElem?_toArray, List.getElem?_cons_zero, List.getElem?_cons_succ] at d0 e0 e1 e2 e3 e4
      have dl := hI5bs.lt
      have el := bx5.lt
      have how := own_any HF5.out ⟨f, true, a2, a3, a4⟩ HFN0.out HFL.out HFR.out HFRE.out
      obtain ⟨fi, hfi⟩ : ∃ fi, ownI G.1 ⟨f, true, a2, a3, a4⟩ = fi := ⟨_, rfl⟩
      have HFI := Lib.hid hfi
      simp only [ownE, E.val, E.arr] at how
      rw [hfi] at how
      rw [HA1.out] at how
      have HOW := Lib.hid how
      clear how hfi hb5 bx5 HG HFX hB2 HW hI5bs hI5bb hbt5
      gi_wp2_with (refine ⟨trivial, fun _ => by omega, ?_⟩; gi_at_call 38; refine (callsIn_wide.2 HOW.out).mono ?_; rintro e W6 ⟨rfl, ho⟩; have HF6 := Lib.hid (show FrAt W6 fb lb cap (ownS G.1 ⟨f, true, a2, a3, a4⟩) from by rw [HA1.out]; exact ho.1); have HS6 := Lib.hid (HS5.out.but ho.2 (by have := HL2.out; omega)); have HB6 := Lib.hid (HB5.out.but ho.2 (by have := HL2.out; omega)); have hx6 := HX5.out.but ho.2 (by have := HL2.out; have := HB2.out; have := HWN.out; have := HSZ.out; omega); have HXP6 := Lib.hid (HXP.out.but ho.2 (by have := HL2.out; have := HSZ.out; omega)); have HSP6 := Lib.hid (show SpAt W6 fb sb bt q G.2 from ⟨HF5.out.s.p.but ho.2 HF5.out.d3, HF5.out.s.t.but ho.2 (fun k hk e => HF5.out.d2 (by have e : k = lb := e; rw [← e]; exact hk)), HF5.out.s.ne⟩); have HBT6 := Lib.hid (HBT5.out.trans ho.2 (fun i hi => .inl (.inl hi))); have HX6 := Lib.hid hx6; have e0 := hx6.cell 0; have e1 := hx6.cell 1; have e2 := hx6.cell 2; have e3 := hx6.cell 3; have e4 := hx6.cell 4; simp only [List.getElem?_toArray, List.getElem?_cons_zero, List.getElem?_cons_succ] at e0 e1 e2 e3 e4; have q0 := hx6.frozen 0; have q1 := hx6.frozen 1; have q2 := hx6.frozen 2; have q3 := hx6.frozen 3; have q4 := hx6.frozen 4; have el6 := hx6.lt; clear ho hx6)
      have hb67 : But (fun i => i = B2) W6 (((((W6.setCell ⟨B2, 0, none⟩ (.int .i64 fi)).setCell ⟨B2, 1, none⟩ (.bool a1)).setCell ⟨B2, 2, none⟩ (.bool a2)).setCell ⟨B2, 3, none⟩ (.bool false)).setCell ⟨B2, 4, none⟩ (.bool a1)) := But.entrySet (S := fun i => i = B2) (But.refl _ W6) (b := B2) (.inl rfl) (.int .i64 fi) (.bool a1) (.bool a2) (.bool false) (.bool a1)
      have hx7 : Blk (((((W6.setCell ⟨B2, 0, none⟩ (.int .i64 fi)).setCell ⟨B2, 1, none⟩ (.bool a1)).setCell ⟨B2, 2, none⟩ (.bool a2)).setCell ⟨B2, 3, none⟩ (.bool false)).setCell ⟨B2, 4, none⟩ (.bool a1)) B2 71 #[.int .i64 fi, .bool a1, .bool a2, .bool false, .bool a1] := HX6.out.entrySet (x := ⟨f, a1, a2, a3, a4⟩) (.int .i64 fi) (.bool a1) (.bool a2) (.bool false) (.bool a1)
      have hbt7 : But (WS lb bt q) W (((((W6.setCell ⟨B2, 0, none⟩ (.int .i64 fi)).setCell ⟨B2, 1, none⟩ (.bool a1)).setCell ⟨B2, 2, none⟩ (.bool a2)).setCell ⟨B2, 3, none⟩ (.bool false)).setCell ⟨B2, 4, none⟩ (.bool a1)) := But.entrySet HBT6.out (b := B2) (.inr HB2.out) (.int .i64 fi) (.bool a1) (.bool a2) (.bool false) (.bool a1)
      generalize (((((W6.setCell ⟨B2, 0, none⟩ (.int .i64 fi)).setCell ⟨B2, 1, none⟩ (.bool a1)).setCell ⟨B2, 2, none⟩ (.bool a2)).setCell ⟨B2, 3, none⟩ (.bool false)).setCell ⟨B2, 4, none⟩ (.bool a1)) = W7 at *
      have HX7 := Lib.hid hx7
      have HBT7 := Lib.hid hbt7
      have hn7 : w.heap.size + 4 ≤ B2 := by have := HB2.out; have := HWN.out; have := HSZ.out; omega
      have HN7 := Lib.hid hn7
      have HF7 := Lib.hid (HF6.out.but hb67 (by have := HL1.out; omega) (by have := HL2.out; omega))
      have HS7 := Lib.hid (HS6.out.but hb67 (by omega))
      have HB7 := Lib.hid (HB6.out.but hb67 (by omega))
      have HXP7 := Lib.hid (HXP6.out.but hb67 (fun e => by
        have e : Bx = B2 := e
        have h1 := HXP.out
        have := HBX.out.lt
        have := HB2.out
        omega))
      have HSP7 := Lib.hid (show SpAt W7 fb sb bt q G.2 from ⟨HSP6.out.p.but hb67 (by have := HL3.out; omega), HSP6.out.t.but hb67 (fun k hk e => by have e : k = B2 := e; have := HL4.out k hk; omega), HSP6.out.ne⟩)
      clear hb67 hx7 hbt7 e0 e1 e2 e3 e4 q0 q1 q2 q3 q4 el6 d0 dl el HF6 HS6 HB6 HXP6 HSP6 HX6 HBT6 HOW HX5 HS5 HB5 HBT5 hn7
      obtain ⟨gi, hgi, hgn, hgr, hgo⟩ := ownI_used HF5.out.f.ok HFN0.out HFL.out HFR.out HFRE.out
      have hfg : fi = (gi : Int) := by rw [← HFI.out]; exact hgi
      have HFG := Lib.hid hfg
      have HGN := Lib.hid hgn
      have HGR := Lib.hid hgr
      have HGO := Lib.hid hgo
      have hset : ∃ pb, q (pg / 8) = some pb := by
        cases hq : q (pg / 8) with
        | some pb => exact ⟨pb, rfl⟩
        | none =>
          have := HSP7.out.t.none_ _ _ (div8 pg HP64.out) hq (mod8 pg)
          rw [dm8, HGP.out] at this
          cases this
      obtain ⟨pb, hpb⟩ := hset
      have hse := set_keep HSP7.out.t.drew ⟨fi, a1, a2, false, a1⟩ (by
        have := HF5.out.f.ok.pos
        have := HGN.out
        have := HFG.out
        unfold E.ok
        simp
        omega) pg HP64.out pb hpb
      simp only [E.val, E.arr] at hse
      have HSET := Lib.hid hse
      have HFX7 := Lib.hid (fun W1 (hb : But (Own bt q) W7 W1) => (show W1.cell? ⟨w.heap.size, 0, none⟩ = some (.pointer (some ⟨sb, 0, none⟩)) ∧ W1.cell? ⟨sb, 1, none⟩ = some (.pointer (some ⟨bt, 0, none⟩)) ∧ W1.cell? ⟨Bx, 0, none⟩ = some (.int .i64 ((pg : Nat) : Int)) ∧ W1.cell? ⟨B2, 0, none⟩ = some (.int .i64 fi) ∧ W1.cell? ⟨B2, 1, none⟩ = some (.bool a1) ∧ W1.cell? ⟨B2, 2, none⟩ = some (.bool a2) ∧ W1.cell? ⟨B2, 3, none⟩ = some (.bool false) ∧ W1.cell? ⟨B2, 4, none⟩ = some (.bool a1) from by
        have hbb := HX7.out.but hb (fun e => by have := HL4.out _ e; have := HN7.out; omega)
        exact ⟨(HS7.out.but hb (fun e => by have := HL4.out _ e; omega)).cell 0, (HSP7.out.p.but hb HSP7.out.ne).cell 1, (HXP7.out.but hb (fun e => by have := HL4.out _ e; have := HSZ.out; omega)).cell 0, hbb.cell 0, hbb.cell 1, hbb.cell 2, hbb.cell 3, hbb.cell 4⟩))
      clear hgi hgn hgr hgo hfg hpb hse
      refine wpIn_region_heldN (S := fun w' => But (Own bt q) W7 w') (by kernel_rfl) ((But.refl _ W7).drew) (fun hS => ?_)
      refine wpAnyInH_takeD (i := 0) (v := ?_) rfl (by kernel_rfl) (by kernel_rfl) (by kernel_rfl) (fun _ _ _ h => h) (fun _ => rfl) (Or.inl ⟨by kernel_rfl, ?_⟩) hS ?_
      rotate_left 1
      · intro w hS
        obtain ⟨d0, d1, d2, d3, d4, d5, d6, d7⟩ := HFX7.out w hS
        go_simp
        all_goals with_reducible rfl
      try simp only [Act.put, List.setIfInBounds_toArray, List.set_cons_zero, List.set_cons_succ]
      refine wpAnyInH_takeD (i := 1) (v := ?_) rfl (by kernel_rfl) (by kernel_rfl) (by kernel_rfl) (fun _ _ _ h => h) (fun _ => rfl) (Or.inl ⟨by kernel_rfl, ?_⟩) hS ?_
      rotate_left 1
      · intro w hS
        obtain ⟨d0, d1, d2, d3, d4, d5, d6, d7⟩ := HFX7.out w hS
        go_simp
        all_goals with_reducible rfl
      try simp only [Act.put, List.setIfInBounds_toArray, List.set_cons_zero, List.set_cons_succ]
      refine wpAnyInH_takeD (i := 2) (v := ?_) rfl (by kernel_rfl) (by kernel_rfl) (by kernel_rfl) (fun _ _ _ h => h) (fun _ => rfl) (Or.inl ⟨by kernel_rfl, ?_⟩) hS ?_
      rotate_left 1
      · intro w hS
        obtain ⟨d0, d1, d2, d3, d4, d5, d6, d7⟩ := HFX7.out w hS
        go_simp
        all_goals with_reducible rfl
      try simp only [Act.put, List.setIfInBounds_toArray, List.set_cons_zero, List.set_cons_succ]
      refine wpAnyInH_takeD (i := 3) (v := ?_) rfl (by kernel_rfl) (by kernel_rfl) (by kernel_rfl) (fun _ _ _ h => h) (fun _ => rfl) (Or.inl ⟨by kernel_rfl, ?_⟩) hS ?_
      rotate_left 1
      · intro w hS
        obtain ⟨d0, d1, d2, d3, d4, d5, d6, d7⟩ := HFX7.out w hS
        go_simp
        all_goals with_reducible rfl
      try simp only [Act.put, List.setIfInBounds_toArray, List.set_cons_zero, List.set_cons_succ]
      refine wpAnyInH_takeD (i := 4) (v := ?_) rfl (by kernel_rfl) (by kernel_rfl) (by kernel_rfl) (fun _ _ _ h => h) (fun _ => rfl) (Or.inl ⟨by kernel_rfl, ?_⟩) hS ?_
      rotate_left 1
      · intro w hS
        obtain ⟨d0, d1, d2, d3, d4, d5, d6, d7⟩ := HFX7.out w hS
        go_simp
        all_goals with_reducible rfl
      try simp only [Act.put, List.setIfInBounds_toArray, List.set_cons_zero, List.set_cons_succ]
      refine wpAnyInH_takeD (i := 5) (v := ?_) rfl (by kernel_rfl) (by kernel_rfl) (by kernel_rfl) (fun _ _ _ h => h) (fun _ => rfl) (Or.inl ⟨by kernel_rfl, ?_⟩) hS ?_
      rotate_left 1
      · intro w hS
        obtain ⟨d0, d1, d2, d3, d4, d5, d6, d7⟩ := HFX7.out w hS
        go_simp
        all_goals with_reducible rfl
      try simp only [Act.put, List.setIfInBounds_toArray, List.set_cons_zero, List.set_cons_succ]
      refine wpAnyInH_takeD (i := 6) (v := ?_) rfl (by kernel_rfl) (by kernel_rfl) (by kernel_rfl) (fun _ _ _ h => h) (fun _ => rfl) (Or.inl ⟨by kernel_rfl, ?_⟩) hS ?_
      rotate_left 1
      · intro w hS
        obtain ⟨d0, d1, d2, d3, d4, d5, d6, d7⟩ := HFX7.out w hS
        go_simp
        all_goals with_reducible rfl
      try simp only [Act.put, List.setIfInBounds_toArray, List.set_cons_zero, List.set_cons_succ]
      refine wpAnyInH_ready (rs := [7]) (by kernel_rfl) (by simp) ?_
      refine AllReadyInH.consD rfl (fun K hK => ?_) AllReadyInH.nil
      go_simp
      refine ⟨trivial, fun _ => by omega, (callsIn_wide.2 (HSET.out)).mono ?_⟩
      rintro e W8 ⟨rfl, htab, hbut8⟩
      refine hK.out _ _ ((But.refl _ W7).drew.trans hbut8 (fun i hi => .inl hi)) (fun hS => ?_)
      clear hK K
      try simp only [Act.put, List.setIfInBounds_toArray, List.set_cons_zero, List.set_cons_succ]
      refine wpAnyInH_done (by kernel_rfl) ?_ _
      clear hS HFX7 HSET
      have hbut8' := (But.refl (Own bt q) W7).drew.trans hbut8 (fun i hi => .inl hi)
      have HB8 := Lib.hid (HB7.out.but hbut8' (fun e => by have := HL4.out _ e; omega))
      have HS8 := Lib.hid (HS7.out.but hbut8' (fun e => by have := HL4.out _ e; omega))
      have HX8 := Lib.hid (HX7.out.but hbut8' (fun e => by have := HL4.out _ e; have := HN7.out; omega))
      have HXP8 := Lib.hid (HXP7.out.but hbut8' (fun e => by have := HL4.out _ e; have := HSZ.out; omega))
      have HF8 := Lib.hid (HF7.out.but hbut8' HF5.out.d1 HF5.out.d2)
      have HP8 := Lib.hid (HSP7.out.p.but hbut8' HSP7.out.ne)
      have HT8 := Lib.hid htab
      have HBT8 := Lib.hid (HBT7.out.trans hbut8' (fun i hi => .inl (.inr hi)))
      clear hbut8' hbut8 htab HB7 HS7 HX7 HXP7 HF7 HBT7
      obtain ⟨g, o, had, hg1, hg2, hg3⟩ := HSRC.out (by have := HON.out; omega)
      subst had
      have HW8 := Lib.hid (HI.out.bu.trans HBT8.out (fun i hi => .inl hi))
      have HC8 := Lib.hid (show ∀ (i : Nat) (v : Value), (cb.map fun x => Value.int .u8 x)[i]? = some v → W8.drew.cell? ((⟨g, o + fr, none⟩ : Addr).add i) = some v from fun i v hv => by
        have e : (⟨g, o + fr, none⟩ : Addr).add i = ⟨g, o + (fr + i), none⟩ := by unfold Addr.add; split <;> simp_all [Nat.add_assoc]
        have hi : i < cb.length := by
          have := (List.getElem?_eq_some_iff.1 hv).1
          rwa [List.length_map] at this
        rw [e]
        refine (World.cell?_of_block (w := w) (HW8.out.block g hg1 hg2)).trans (hg3 (fr + i) v ?_)
        rw [List.getElem?_map] at hv ⊢
        rw [← hv, HCUT.out, List.getElem?_take_of_lt (by rw [← HCL.out]; exact hi), List.getElem?_drop])
      have hwr := frWrite_any HF8.out.drew (k := gi) (by rw [HGO.out]; exact HGN.out) HGR.out of ⟨g, o + fr, none⟩ (c - fr) cb HON.out.1 (by rw [HCL.out]; exact HON.out.2.1) (fun y hy => HLOW.out y (by rw [HCUT.out] at hy; exact List.mem_of_mem_drop (List.mem_of_mem_take hy))) HC8.out
      rw [HCL.out, ← HFG.out] at hwr
      have HWR := Lib.hid hwr
      have HFX8 := Lib.hid (fun W1 (hb : But (fun i => i = lb) W8 W1) => (show W1.cell? ⟨w.heap.size, 0, none⟩ = some (.pointer (some ⟨sb, 0, none⟩)) ∧ W1.cell? ⟨sb, 0, none⟩ = some (.pointer (some ⟨fb, 0, none⟩)) ∧ W1.cell? ⟨B2, 0, none⟩ = some (.int .i64 fi) ∧ W1.cell? ⟨Bx, 1, none⟩ = some (.int .i64 ((of : Nat) : Int)) ∧ W1.cell? ⟨w.heap.size + 1, 0, none⟩ = some (.slice (some ⟨g, o, none⟩) k c) ∧ W1.cell? ⟨Bx, 2, none⟩ = some (.int .i64 ((fr : Nat) : Int)) ∧ W1.cell? ⟨Bx, 3, none⟩ = some (.int .i64 ((nn : Nat) : Int)) from by
        have hl2 := HL2.out
        have hbb := HX8.out.but hb (by have := HN7.out; omega)
        have hbp := HXP8.out.but hb (by have := HSZ.out; omega)
        exact ⟨(HS8.out.but hb (by omega)).cell 0, (HP8.out.but hb HF5.out.d3).cell 0, hbb.cell 0, hbp.cell 1, (HB8.out.but hb (by omega)).cell 0, hbp.cell 2, hbp.cell 3⟩))
      have HAR := Lib.hid (show ((fr : Int) ≤ (fr : Int) + (nn : Int) ∧ (fr : Int) + (nn : Int) ≤ (c : Int) ∧ (fr : Int) < (c : Int) ∧ ¬ c - fr = 0 ∧ ¬ fr = c ∧ ¬ c ≤ fr ∧ (fr : Int) + (nn : Int) ≤ 4096) from by have := HON.out; omega)
      clear hwr hg1 hg2 hg3
      gi_wp2_with (fail)
      refine wpIn_region_heldN (S := fun w' => But (fun i => i = lb) W8 w') (by kernel_rfl) ((But.refl _ W8).drew) (fun hS => ?_)
      refine wpAnyInH_takeD (i := 0) (v := ?_) rfl (by kernel_rfl) (by kernel_rfl) (by kernel_rfl) (fun _ _ _ h => h) (fun _ => rfl) (Or.inl ⟨by kernel_rfl, ?_⟩) hS ?_
      rotate_left 1
      · intro w hS
        obtain ⟨d0, d1, d2, d3, d4, d5, d6⟩ := HFX8.out w hS
        go_simp
        all_goals with_reducible rfl
      try simp only [Act.put, List.setIfInBounds_toArray, List.set_cons_zero, List.set_cons_succ]
      refine wpAnyInH_takeD (i := 1) (v := ?_) rfl (by kernel_rfl) (by kernel_rfl) (by kernel_rfl) (fun _ _ _ h => h) (fun _ => rfl) (Or.inl ⟨by kernel_rfl, ?_⟩) hS ?_
      rotate_left 1
      · intro w hS
        obtain ⟨d0, d1, d2, d3, d4, d5, d6⟩ := HFX8.out w hS
        go_simp
        all_goals with_reducible rfl
      try simp only [Act.put, List.setIfInBounds_toArray, List.set_cons_zero, List.set_cons_succ]
      refine wpAnyInH_takeD (i := 2) (v := ?_) rfl (by kernel_rfl) (by kernel_rfl) (by kernel_rfl) (fun _ _ _ h => h) (fun _ => rfl) (Or.inl ⟨by kernel_rfl, ?_⟩) hS ?_
      rotate_left 1
      · intro w hS
        obtain ⟨d0, d1, d2, d3, d4, d5, d6⟩ := HFX8.out w hS
        go_simp
        all_goals with_reducible rfl
      try simp only [Act.put, List.setIfInBounds_toArray, List.set_cons_zero, List.set_cons_succ]
      refine wpAnyInH_takeD (i := 3) (v := ?_) rfl (by kernel_rfl) (by kernel_rfl) (by kernel_rfl) (fun _ _ _ h => h) (fun _ => rfl) (Or.inl ⟨by kernel_rfl, ?_⟩) hS ?_
      rotate_left 1
      · intro w hS
        obtain ⟨d0, d1, d2, d3, d4, d5, d6⟩ := HFX8.out w hS
        go_simp
        all_goals with_reducible rfl
      try simp only [Act.put, List.setIfInBounds_toArray, List.set_cons_zero, List.set_cons_succ]
      refine wpAnyInH_takeD (i := 4) (v := ?_) rfl (by kernel_rfl) (by kernel_rfl) (by kernel_rfl) (fun _ _ _ h => h) (fun _ => rfl) (Or.inl ⟨by kernel_rfl, ?_⟩) hS ?_
      rotate_left 1
      · intro w hS
        obtain ⟨d0, d1, d2, d3, d4, d5, d6⟩ := HFX8.out w hS
        go_simp
        all_goals with_reducible rfl
      try simp only [Act.put, List.setIfInBounds_toArray, List.set_cons_zero, List.set_cons_succ]
      refine wpAnyInH_takeD (i := 5) (v := ?_) rfl (by kernel_rfl) (by kernel_rfl) (by kernel_rfl) (fun _ _ _ h => h) (fun _ => rfl) (Or.inl ⟨by kernel_rfl, ?_⟩) hS ?_
      rotate_left 1
      · intro w hS
        obtain ⟨d0, d1, d2, d3, d4, d5, d6⟩ := HFX8.out w hS
        go_simp
        all_goals with_reducible rfl
      try simp only [Act.put, List.setIfInBounds_toArray, List.set_cons_zero, List.set_cons_succ]
      refine wpAnyInH_takeD (i := 6) (v := ?_) rfl (by kernel_rfl) (by kernel_rfl) (by kernel_rfl) (fun _ _ _ h => h) (fun _ => rfl) (Or.inl ⟨by kernel_rfl, ?_⟩) hS ?_
      rotate_left 1
      · intro w hS
        obtain ⟨d0, d1, d2, d3, d4, d5, d6⟩ := HFX8.out w hS
        go_simp
        all_goals with_reducible rfl
      try simp only [Act.put, List.setIfInBounds_toArray, List.set_cons_zero, List.set_cons_succ]
      refine wpAnyInH_takeD (i := 7) (v := ?_) rfl (by kernel_rfl) (by kernel_rfl) (by kernel_rfl) (fun _ _ _ h => h) (fun _ => rfl) (Or.inl ⟨by kernel_rfl, ?_⟩) hS ?_
      rotate_left 1
      · intro w hS
        obtain ⟨d0, d1, d2, d3, d4, d5, d6⟩ := HFX8.out w hS
        go_simp
        all_goals with_reducible rfl
      try simp only [Act.put, List.setIfInBounds_toArray, List.set_cons_zero, List.set_cons_succ]
      refine wpAnyInH_takeD (i := 8) (v := ?_) rfl (by kernel_rfl) (by kernel_rfl) (by kernel_rfl) (fun _ _ _ h => h) (fun _ => rfl) (Or.inl ⟨by kernel_rfl, ?_⟩) hS ?_
      rotate_left 1
      · intro w hS
        obtain ⟨d0, d1, d2, d3, d4, d5, d6⟩ := HFX8.out w hS
        go_simp
        all_goals with_reducible rfl
      try simp only [Act.put, List.setIfInBounds_toArray, List.set_cons_zero, List.set_cons_succ]
      refine wpAnyInH_takeD (i := 9) (v := ?_) rfl (by kernel_rfl) (by kernel_rfl) (by kernel_rfl) (fun _ _ _ h => h) (fun _ => rfl) (Or.inl ⟨by kernel_rfl, ?_⟩) hS ?_
      rotate_left 1
      · intro w hS
        obtain ⟨d0, d1, d2, d3, d4, d5, d6⟩ := HFX8.out w hS
        go_simp
        all_goals with_reducible rfl
      try simp only [Act.put, List.setIfInBounds_toArray, List.set_cons_zero, List.set_cons_succ]
      refine wpAnyInH_takeD (i := 10) (v := ?_) rfl (by kernel_rfl) (by kernel_rfl) (by kernel_rfl) (fun _ _ _ h => h) (fun _ => rfl) (Or.inl ⟨by kernel_rfl, ?_⟩) hS ?_
      rotate_left 1
      · intro w hS
        obtain ⟨d0, d1, d2, d3, d4, d5, d6⟩ := HFX8.out w hS
        go_simp
        all_goals with_reducible rfl
      try simp only [Act.put, List.setIfInBounds_toArray, List.set_cons_zero, List.set_cons_succ]
      refine wpAnyInH_takeD (i := 11) (v := ?_) rfl (by kernel_rfl) (by kernel_rfl) (by kernel_rfl) (fun _ _ _ h => h) (fun _ => rfl) (Or.inl ⟨by kernel_rfl, ?_⟩) hS ?_
      rotate_left 1
      · intro w hS
        obtain ⟨d0, d1, d2, d3, d4, d5, d6⟩ := HFX8.out w hS
        go_simp
        all_goals with_reducible rfl
      try simp only [Act.put, List.setIfInBounds_toArray, List.set_cons_zero, List.set_cons_succ]
      refine wpAnyInH_takeD (i := 12) (v := ?_) rfl (by kernel_rfl) (by kernel_rfl) (by kernel_rfl) (fun _ _ _ h => h) (fun _ => rfl) (Or.inl ⟨by kernel_rfl, ?_⟩) hS ?_
      rotate_left 1
      · intro w hS
        obtain ⟨d0, d1, d2, d3, d4, d5, d6⟩ := HFX8.out w hS
        go_simp
        all_goals with_reducible rfl
      try simp only [Act.put, List.setIfInBounds_toArray, List.set_cons_zero, List.set_cons_succ]
      refine wpAnyInH_takeD (i := 13) (v := ?_) rfl (by kernel_rfl) (by kernel_rfl) (by kernel_rfl) (fun _ _ _ h => h) (fun _ => rfl) (Or.inl ⟨by kernel_rfl, ?_⟩) hS ?_
      rotate_left 1
      · intro w hS
        obtain ⟨d0, d1, d2, d3, d4, d5, d6⟩ := HFX8.out w hS
        go_simp
        all_goals with_reducible rfl
      try simp only [Act.put, List.setIfInBounds_toArray, List.set_cons_zero, List.set_cons_succ]
      refine wpAnyInH_takeD (i := 14) (v := ?_) rfl (by kernel_rfl) (by kernel_rfl) (by kernel_rfl) (fun _ _ _ h => h) (fun _ => rfl) (Or.inl ⟨by kernel_rfl, ?_⟩) hS ?_
      rotate_left 1
      · intro w hS
        obtain ⟨d0, d1, d2, d3, d4, d5, d6⟩ := HFX8.out w hS
        go_simp
        all_goals with_reducible rfl
      try simp only [Act.put, List.setIfInBounds_toArray, List.set_cons_zero, List.set_cons_succ]
      refine wpAnyInH_takeD (i := 15) (v := ?_) rfl (by kernel_rfl) (by kernel_rfl) (by kernel_rfl) (fun _ _ _ h => h) (fun _ => rfl) (Or.inl ⟨by kernel_rfl, ?_⟩) hS ?_
      rotate_left 1
      · intro w hS
        have hwr1 : IntKind.i64.wrap ((fr : Int) + (nn : Int)) = (fr : Int) + (nn : Int) := by
          have := HAR.out.2.2.2.2.2.2
          rw [IntKind.wrap_i64]
          omega
        go_simp
        all_goals with_reducible rfl
      try simp only [Act.put, List.setIfInBounds_toArray, List.set_cons_zero, List.set_cons_succ]
      refine wpAnyInH_takeD (i := 16) (v := ?_) rfl (by kernel_rfl) (by kernel_rfl) (by kernel_rfl) (fun _ _ _ h => h) (fun _ => rfl) (Or.inl ⟨by kernel_rfl, ?_⟩) hS ?_
      rotate_left 1
      · intro w hS
        obtain ⟨w1, w2, w3, w4, w5, w6, w7⟩ := HAR.out
        have t1 : ((fr : Int) + (nn : Int)).toNat = fr + nn := by omega
        have t2 : fr + nn - fr = nn := by omega
        have t3 : fr ≤ fr + nn := by omega
        have t4 : (0 : Int) ≤ (fr : Int) + (nn : Int) := by omega
        have t5 : (fr : Int) ≤ (c : Int) := by omega
        have t6 : ¬ c = fr := by omega
        go_simp
        all_goals with_reducible rfl
      try simp only [Act.put, List.setIfInBounds_toArray, List.set_cons_zero, List.set_cons_succ]
      refine wpAnyInH_ready (rs := [17]) (by kernel_rfl) (by simp) ?_
      refine AllReadyInH.consD rfl (fun K hK => ?_) AllReadyInH.nil
      go_simp
      refine ⟨trivial, fun _ => by omega, (callsIn_wide.2 (HWR.out)).mono ?_⟩
      rintro e W9 ⟨rfl, ho9⟩
      refine hK.out _ _ ((But.refl _ W8).drew.trans ho9.2 (fun i hi => .inl hi)) (fun hS => ?_)
      clear hK K
      try simp only [Act.put, List.setIfInBounds_toArray, List.set_cons_zero, List.set_cons_succ]
      refine wpAnyInH_done (by kernel_rfl) ?_ _
      clear hS HFX8 HWR
      have ho9' := (But.refl (fun i => i = lb) W8).drew.trans ho9.2 (fun i hi => .inl hi)
      have HBT9 := Lib.hid (HBT8.out.trans ho9' (fun i hi => .inl (.inl hi)))
      gi_wp2
      show leftP _ _ _ _ _ _ .normal _ _
      refine ⟨KeepsFrom.of_but HBT9.out (fun i hi => ?_), KpP.of_but HBT9.out (fun i hi => ?_), ?_⟩
      · have := HSZ.out
        rcases hi with rfl | hi
        · have := HL2.out; omega
        · have := HL4.out _ hi; omega
      · have := HSZ.out
        rcases hi with rfl | hi
        · have := HL2.out; omega
        · have := HL4.out _ hi; omega
      · show WI w w.heap.size N0 fb lb cap sb bt q _ (writeGo F m a k bs (pre ++ [(⟨pg, of, fr, nn⟩ : Pc)]).length) W9 ∧ WL F m a (pcJ a k) (pre ++ [(⟨pg, of, fr, nn⟩ : Pc)]).length (writeGo F m a k bs (pre ++ [(⟨pg, of, fr, nn⟩ : Pc)]).length)
        rw [HPL1.out]
        refine ⟨?_, HWL1.out⟩
        rw [HSU.out, ← HPG.out, ← HXK.out]
        have hox : ownE G.1 ⟨f, true, a2, a3, a4⟩ = ⟨fi, a1, a2, false, a1⟩ := by unfold ownE; rw [HFI.out, ← HA1.out]
        rw [hox, HFI.out, HFG.out, Int.toNat_natCast]
        have hf9 := ho9.1
        refine ⟨HS8.out.but ho9' (by have := HL2.out; omega), HB8.out.but ho9' (by have := HL2.out; omega), ⟨hf9, ⟨HP8.out.but ho9' HF5.out.d3, ?_, HF5.out.s.ne⟩, HF5.out.d1, HF5.out.d2, HF5.out.d3, HF5.out.d4⟩, HI.out.bu.trans HBT9.out (fun i hi => .inl hi), ?_⟩
        · rw [← HFG.out]
          exact HT8.out.but ho9' (fun k hk e => HF5.out.d2 (by have e : k = lb := e; rw [← e]; exact hk))
        · have := HBT9.out.size
          have := HI.out.sz
          omega
  case done =>
    rintro D xs W hD rfl ⟨hI, hWL⟩ hK
    have HI := Lib.hid hI
    clear hI
    gi_wp2
    refine ⟨by simp, .inl ⟨_, _, rfl, run_takeDeferred hK, ?_⟩⟩
    have hI := HI.out
    unfold pcs at hI
    rw [pcN_len] at hI
    have hbp : Below (N0 + 2) W (W.putObj D (.deferred none)) := belowK_b (w := W4) (by omega) W D _ _ (by omega) hK rfl rfl
    have hI2 := hI.below (Nat.le_refl _) HSZ.out HL1.out HL2.out HL3.out HL4.out hbp
    exact ⟨_, results_tmp rfl _ _ _, rfl, hI2.fs, hI2.bu⟩
end
end Go.Proofs.Ytlecfdchmcghlaa
