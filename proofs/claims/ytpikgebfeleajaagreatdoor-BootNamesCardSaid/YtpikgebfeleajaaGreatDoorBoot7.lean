/-
  Walks over package boot: Bytes. No condition.
-/
import Derived.Test.YtpikgebfeleajaaGreatDoorBoot5
import Derived.Laws.CopyOwn
namespace Go.Proofs.YtpikgebfeleajaaGreatDoor
section
open Go.RowKit Go.Shelf
set_option linter.unusedVariables false
set_option linter.unusedSimpArgs false
attribute [local go_sem] Oper.semAt_some

theorem blk_priv {β : Type} {B C k : Nat} {t : TypeId} (f : β → Array Value) (hk : k < B) : Priv B C (fun s W => Blk W k t (f s)) := fun s W W' row hs hg hr => Blk.grown hs hg (fun e => by have := (hr k e.symm).1; omega)
theorem below_priv {β : Type} {B C n₀ : Nat} {w : World} (h1 : n₀ ≤ B) (h3 : n₀ ≤ w.heap.size) : Priv B C (fun (_ : β) W => Below n₀ w W) := fun s W W' row hs hg hr => Below.grown hs hg (by have := hs.size; omega) (fun k e => by have := (hr k e).1; omega)
theorem Priv.and {β : Type} {B C : Nat} {J K : β → World → Prop} (h : Priv B C J) (k : Priv B C K) : Priv B C (fun s W => J s W ∧ K s W) := fun s W W' row hs hg hr => ⟨h s W W' row hs.1 hg hr, k s W W' row hs.2 hg hr⟩
theorem pure_priv {β : Type} {B C : Nat} (p : β → Prop) : Priv B C (fun s (_ : World) => p s) := fun _ _ _ _ hs _ _ => hs
theorem kpP_t {n₀ Bn B2 : Nat} {X Y Z : World} (h : KpP n₀ Bn B2 X Y) (k : KpP n₀ Bn B2 Y Z) : KpP n₀ Bn B2 X Z :=
  ⟨h.1.trans k.1, k.2.1.trans h.2.1, fun i hi hl => (k.2.2 i hi (Nat.lt_of_lt_of_le hl h.1.size)).trans (h.2.2 i hi hl)⟩
theorem kpP_r (n₀ Bn B2 : Nat) (X : World) : KpP n₀ Bn B2 X X := ⟨Below.refl _ _, rfl, fun _ _ _ => rfl⟩
theorem kpP_b {n₀ Bn s : Nat} (h1 : n₀ ≤ s + 1) (h2 : Bn < s + 1) (W : World) (r : Loop) (o' : Obj) (hl : W.heap[s + 1]? = some (.loop r)) : KpP n₀ Bn (s + 2) W (W.putObj (s + 1) o') :=
  ⟨(Below.refl n₀ W).grown (grownBy_putObj' W (s + 1) o') (by have := (Array.getElem?_eq_some_iff.1 hl).1; omega) (fun k e => by cases e; omega), World.putObj_heap_other (by omega), fun k hk _ => World.putObj_heap_other (by omega)⟩
theorem kpP_set {n₀ Bn B2 : Nat} (W : World) (b : Nat) (v : Value) (h1 : n₀ ≤ b) (h2 : b ≠ Bn) (h3 : b < B2) : KpP n₀ Bn B2 W (W.setCell ⟨b, 0, none⟩ v) :=
  ⟨(Below.refl n₀ W).setCell h1 v, Below.heap_setCell W _ _ _ (by simp; omega), fun k hk _ => Below.heap_setCell W _ _ _ (by simp; omega)⟩

def lastN (l : List Pg) : Nat := match l.getLast? with | none => 0 | some y => y.n + 1
theorem lastN_snoc (pre : List Pg) (y : Pg) : lastN (pre ++ [y]) = y.n + 1 := by simp [lastN]
theorem lastN_nb (ys : List Pg) : lastN ys = match (ys.map Pg.nb).getLast? with | none => 0 | some y => y.1 + 1 := by
  unfold lastN; rw [List.getLast?_map]; cases ys.getLast? <;> rfl
theorem lastN_all {may : Bool} {ws : List Int} {ys : List Pg} (h : ys.map Pg.nb = pagesL may ws) : lastN ys = pagesN may ws.length := by
  rw [lastN_nb, h]
  cases may with
  | false => rfl
  | true =>
    show (match (chunkList (bytesL ws)).getLast? with | none => 0 | some y => y.1 + 1) = (ws.length + 15) / 16
    unfold chunkList
    have hm : chunks (bytesL ws).length = (ws.length + 15) / 16 := by unfold chunks; rw [bytesL_len]; omega
    rw [← hm]
    generalize chunks (bytesL ws).length = m
    cases m with
    | zero => simp
    | succ k =>
      rw [List.getLast?_map, List.getLast?_eq_getElem?]
      simp

set_option maxRecDepth 100000 in
set_option maxHeartbeats 2000000 in
theorem bootPages_in (n : Nat) (hn : 16 ≤ n) (c f p q : Int) (A : Option Addr) (cap : Nat) (ws : List Int) (hl : ws.length ≤ 600) (hw : Words ws) (w : World) (hA : WordsAt w A ws) :
    CallsIn Fence.wide n Tryz.prog 16 #[bootV c f p q A ws.length cap] w fun e W' => e = .returned (.int .i64 (pagesN (mayB c f p q ws.length) ws.length : Nat)) ∧ Below w.heap.size w W' := by
  have h1 : 1 ≤ n := by omega
  have HPI := Lib.hid (fun W => pages_in (n - 1) c f p q A ws.length cap W)
  unfold bootV at HPI ⊢
  refine callsIn_of_wp_marks Tryz.func16 rfl trivial ?_ rfl
  simp only [Tryz.ntmps16, List.size_toArray, List.length_cons, List.length_nil, Nat.reduceAdd, Nat.reduceSub, Array.replicate_succ, Array.replicate_zero, List.push_toArray, List.append_toArray, List.nil_append, List.cons_append]
  gi_wp2_with (refine ⟨trivial, ?_⟩; gi_at_call 34; refine (HPI.out _).mono ?_; rintro e w' ⟨rfl, rfl⟩)
  have hBX := (Blk.new w 24 #[.int .i64 c, .int .i64 f, .int .i64 p, .int .i64 q, .slice A ws.length cap]).alloc (.cells #[.int .i64 0] 3)
  have hBO := (Blk.new (w.alloc (.cells #[.int .i64 c, .int .i64 f, .int .i64 p, .int .i64 q, .slice A ws.length cap] 24)) 3 #[.int .i64 0]).alloc (.cells #[.int .i64 c, .int .i64 f, .int .i64 p, .int .i64 q, .slice A ws.length cap] 24)
  have hBN := Blk.new ((w.alloc (.cells #[.int .i64 c, .int .i64 f, .int .i64 p, .int .i64 q, .slice A ws.length cap] 24)).alloc (.cells #[.int .i64 0] 3)) 24 #[.int .i64 c, .int .i64 f, .int .i64 p, .int .i64 q, .slice A ws.length cap]
  have hb0 := (((Below.refl w.heap.size w).alloc (Nat.le_refl _) (.cells #[.int .i64 c, .int .i64 f, .int .i64 p, .int .i64 q, .slice A ws.length cap] 24)).alloc (by simp) (.cells #[.int .i64 0] 3)).alloc (by simp; omega) (.cells #[.int .i64 c, .int .i64 f, .int .i64 p, .int .i64 q, .slice A ws.length cap] 24)
  have hA0 := hA.below hb0
  have hsz : (((w.alloc (.cells #[.int .i64 c, .int .i64 f, .int .i64 p, .int .i64 q, .slice A ws.length cap] 24)).alloc (.cells #[.int .i64 0] 3)).alloc (.cells #[.int .i64 c, .int .i64 f, .int .i64 p, .int .i64 q, .slice A ws.length cap] 24)).heap.size = w.heap.size + 3 := by simp
  simp only [World.size_alloc] at hBO hBN
  clear hBX
  generalize (((w.alloc (.cells #[.int .i64 c, .int .i64 f, .int .i64 p, .int .i64 q, .slice A ws.length cap] 24)).alloc (.cells #[.int .i64 0] 3)).alloc (.cells #[.int .i64 c, .int .i64 f, .int .i64 p, .int .i64 q, .slice A ws.length cap] 24)) = W0 at *
  refine wpIn_rangeFunc_R rfl h1 (gf := 60) (lb := #[.pointer (some ⟨w.heap.size + 1 + 1, 0, none⟩)]) rfl trivial (enters_of Tryz.func60 (by kernel_rfl) rfl)
    (encs := encP) (Mm := MmP) (Kp := KpP w.heap.size (w.heap.size + 1 + 1) (W0.heap.size + 2)) (S := fun ys => ys.map Pg.nb = pagesL (mayB c f p q ws.length) ws) (Sp := fun pre => pre.map Pg.nb <+: pagesL (mayB c f p q ws.length) ws) (N := 64)
    (fun W hW hs => by
      have := pages1_seq (n - 1) (by omega) (W0.heap.size + 1) w.heap.size (w.heap.size + 1 + 1) c f p q A cap ws hl hw W (hBN.below hW hBN.lt) (hA0.below hW) (by omega)
      rw [hs] at this
      exact this)
    kpP_t (kpP_b (by omega) (by omega)) (fun _ => rfl) (fun x => mmP_own x _)
    (fun C pre W => Blk W (w.heap.size + 1) 3 #[.int .i64 (lastN pre : Int)] ∧ Below w.heap.size w W)
    (fun C cc pre W => False)
    (fun C => Priv.and (blk_priv _ (by omega)) (below_priv (by omega) (by omega)))
    (fun C cc s W W' row hs hg hr => hs.elim)
    (fun C => ⟨hBO, hb0⟩)
    (fun x a' W => a' = { tmps := #[.agg #[.int .i64 c, .int .i64 f, .int .i64 p, .int .i64 q, .slice A ws.length cap], .pointer (some ⟨w.heap.size, 0, none⟩), .int .i64 0, .pointer (some ⟨w.heap.size + 1, 0, none⟩), .int .i64 (x.n : Int),
      .agg #[.int .i64 c, .int .i64 f, .int .i64 p, .int .i64 q, .slice A ws.length cap], .func (.func 60) #[] #[.pointer (some ⟨w.heap.size + 1 + 1, 0, none⟩)], .int .i64 (x.n : Int), .slice (some ⟨x.g, x.off, none⟩) x.bs.length x.bs.length, undef, undef, undef], defers := [] } ∧ x.n ≤ 64)
    (fun x a' _ X Y row hs hg hr => hs)
    ?assign ?body ?done ?stop
  case assign =>
    rintro l C pre x W K hC1 hC2 ⟨hO, hB⟩ hmm hK
    simp only [encP] at hK ⊢
    gi_wp2
    exact hK _ _ (KeepsFrom.refl _ _) (kpP_r _ _ _ _) ⟨hO, hB⟩ hmm ⟨rfl, hmm.2.2⟩
  case body =>
    rintro l C pre x a' W hl1 hl2 hC1 hC2 ⟨hO, hB⟩ hmm ⟨rfl, hx64⟩ hlt
    have HO := Lib.hid hO
    have HB := Lib.hid hB
    have o0 := hO.cell 0
    have olt := hO.lt
    have ofr := hO.frozen 0
    simp only [List.getElem?_toArray, List.getElem?_cons_zero] at o0
    clear hO hB hmm
    gi_wp2
    have hb := HB.out
    have hset := HO.out.set_ 0 (.int .i64 ((x.n : Int) + 1))
    refine ⟨⟨by simp [World.setCell], fun k o hk h0 ho => (Below.heap_setCell W _ _ k (by simp; omega)).trans h0⟩, kpP_set W _ _ (by omega) (by omega) (by omega), ?_, hb.setCell (by simp) _⟩
    rw [lastN_snoc]
    simpa using hset
  case done =>
    rintro D C ys W hD hys ⟨hO, hB⟩ hK
    have HO := Lib.hid hO
    have HB := Lib.hid hB
    have o0 := hO.cell 0
    have olt := hO.lt
    simp only [List.getElem?_toArray, List.getElem?_cons_zero] at o0
    clear hO hB
    gi_wp2
    refine ⟨by simp, .inl ⟨_, _, rfl, run_takeDeferred hK, ?_⟩⟩
    exact ⟨_, results_tmp rfl _ _ _, by rw [← lastN_all hys]; rfl, HB.out.trans (belowK_b (w := w) (Nat.le_refl _) W D _ _ (by omega) hK rfl rfl)⟩
  case stop =>
    rintro D C cc pre W _ _ h _
    exact h.elim
end
section
open Go.RowKit Go.Shelf
set_option linter.unusedVariables false
set_option linter.unusedSimpArgs false

theorem run_copy_over {P : Program} (w : World) (dT sT ty elem : TypeId) (hu : P.underlying dT = some (.slice elem)) (hsz : (P.info? elem).map (·.size) = some 1)
    (g off dLen dCap : Nat) (ad : Addr) (sLen sCap : Nat) (cur : Array Value) (t : TypeId) (hg : w.heap[g]? = some (.cells cur t (0, 0))) (cs : List Value) (hn : cs.length = Nat.min sLen dLen)
    (hsrc : ∀ j v, cs[j]? = some v → w.cell? (ad.add j) = some v) (hfit : off + cs.length ≤ cur.size) (h1 : ∀ v ∈ cs, v.oneCell' = true) :
    ∃ w', (Builtin.copy_ #[dT, sT] ty #[.slice (some ⟨g, off, none⟩) dLen dCap, .slice (some ad) sLen sCap]).run P w = .ok (goInt cs.length) w' ∧ w'.heap[g]? = some (.cells (splice cur.toList off cs).toArray t (0, 0)) ∧ w.grownBy w' (some g) := by
  have hrun := run_copy_row (P := P) w dT sT ty elem g off dLen dCap ad sLen sCap cur t cs hu hsz hg hn hsrc hfit h1
  refine ⟨_, hrun, ?_, rfl, rfl, rfl, by simp [World.setRow], fun k hk hkn => setRow_other w g k _ (fun e => hkn (by rw [e]))⟩
  rw [setRow_heap w g _ _ t _ hg]
  simp [splice]
def zeroRow : Array Value := Array.replicate 64 (.int .u8 0)
theorem sizeB : (Tryz.prog.info? 5).map (·.size) = some 1 := by kernel_rfl
theorem blk_putObj {W : World} {g D : Nat} {t : TypeId} {cs : Array Value} {o' : Obj} (h : Blk W g t cs) (hK : W.heap[D]? = some (.deferred (some []))) : Blk (W.putObj D o') g t cs := by
  refine (World.putObj_heap_other (fun e => ?_)).trans h
  subst e
  rw [h] at hK
  cases hK
theorem make64 (u : World) : (Instr.makeSlice 39 (.int .i64 64) (.int .i64 64)).run Tryz.prog u = .ok (.slice (some ⟨u.heap.size, 0, none⟩) 64 64) (u.alloc (.cells zeroRow 5)) := by kernel_rfl
attribute [local go_sem] Oper.semAt_some

def pad (l : List Int) : List Int := l ++ List.replicate (64 - l.length) 0
theorem pad_len {l : List Int} (h : l.length ≤ 64) : (pad l).length = 64 := by simp [pad]; omega
theorem pad_page (bs : List Int) (k : Nat) : pad (chunkB bs k) = pageL bs k := by
  have h1 : (pad (chunkB bs k)).length = 64 := pad_len (by rw [chunkB_len]; unfold chunkLen; omega)
  refine List.ext_getElem? fun j => ?_
  by_cases hj : j < 64
  · rw [pageL_at bs k hj]
    unfold pad
    rw [List.getElem?_append]
    unfold chunkB
    by_cases hb : 64 * k + j < bs.length
    · rw [if_pos (by simp; omega), List.getElem?_take, if_pos hj, List.getElem?_drop, List.getD_eq_getElem?_getD, List.getElem?_eq_getElem hb]; rfl
    · rw [if_neg (by simp; omega), List.getD_eq_getElem?_getD, List.getElem?_eq_none (l := bs) (by omega), List.getElem?_replicate, if_pos (by simp; omega)]; rfl
  · rw [List.getElem?_eq_none (by omega), List.getElem?_eq_none (by rw [pageL_len]; omega)]

theorem page_none {may : Bool} {ws : List Int} {page : Int} {ys : List Pg} (h : ys.map Pg.nb = pagesL may ws) (hn : ∀ y ∈ ys, (y.n : Int) ≠ page) : pageOf may ws page = [] := by
  unfold pageOf
  rw [if_neg]
  rintro ⟨h0, h1⟩
  cases may with
  | false => simp [pagesN] at h1; omega
  | true =>
    obtain ⟨k, rfl⟩ := Int.eq_ofNat_of_zero_le h0
    have hk : k < chunks (bytesL ws).length := by unfold chunks; rw [bytesL_len]; simp only [pagesN, if_true] at h1; omega
    have hmem : (k, chunkB (bytesL ws) k) ∈ pagesL true ws := by
      show _ ∈ chunkList (bytesL ws)
      unfold chunkList
      exact List.mem_map.2 ⟨⟨k, hk⟩, List.mem_finRange _, rfl⟩
    rw [← h] at hmem
    obtain ⟨y, hy, he⟩ := List.mem_map.1 hmem
    exact hn y hy (by have := congrArg Prod.fst he; simp [Pg.nb] at this; rw [this])
theorem page_some {may : Bool} {ws : List Int} {page : Int} {pre : List Pg} {y : Pg} (h : (pre ++ [y]).map Pg.nb <+: pagesL may ws) (hn : (y.n : Int) = page) : pageOf may ws page = pad y.bs := by
  have hmem : y.nb ∈ pagesL may ws := h.subset (by simp)
  cases may with
  | false => simp [pagesL] at hmem
  | true =>
    have hm2 : y.nb ∈ chunkList (bytesL ws) := hmem
    unfold chunkList at hm2
    obtain ⟨k, _, he⟩ := List.mem_map.1 hm2
    have h1 : k.val = y.n := congrArg Prod.fst he
    have h2 : chunkB (bytesL ws) k.val = y.bs := congrArg Prod.snd he
    have hk := k.isLt
    rw [← h2, pad_page]
    unfold pageOf
    have hm : chunks (bytesL ws).length = (ws.length + 15) / 16 := by unfold chunks; rw [bytesL_len]; omega
    rw [if_pos (by show 0 ≤ page ∧ page < (((ws.length + 15) / 16 : Nat) : Int); omega), ← hn, ← h1]; rfl

theorem flat_bC (bs : List Int) : bs.flatMap bC = bs.map (Value.int .u8) := by
  induction bs with
  | nil => rfl
  | cons b bs ih => rw [List.flatMap_cons, ih]; rfl
theorem splice_pad {bs : List Int} (h : bs.length ≤ 64) : (splice zeroRow.toList 0 (bs.flatMap bC)).toArray = ((pad bs).flatMap bC).toArray := by
  unfold splice zeroRow pad
  rw [flat_bC, flat_bC, Array.toList_replicate, List.length_map, List.drop_replicate, List.map_append, List.map_replicate, Nat.zero_add]
  rfl
theorem far_cell {W : World} {ob g k : Nat} (v : Value) (z : Obj) (hg : g < W.heap.size) (hne : g ≠ ob) : ((W.setCell ⟨ob, 0, none⟩ v).alloc z).cell? ⟨g, k, none⟩ = W.cell? ⟨g, k, none⟩ := by
  unfold World.cell?
  rw [Below.heap_alloc _ _ g (by simpa [World.setCell] using hg), Below.heap_setCell W _ _ g hne]
theorem byte_src {W : World} {ob g off : Nat} {bs : List Int} {v0 : Value} {t : TypeId} (v : Value) (z : Obj) (h : BytesAt W (some ⟨g, off, none⟩) bs) (hO : Blk W ob t #[v0]) (hv0 : ∀ b, v0 ≠ .int .u8 b) :
    ∀ j u, (bs.flatMap bC)[j]? = some u → ((W.setCell ⟨ob, 0, none⟩ v).alloc z).cell? (Addr.add ⟨g, off, none⟩ j) = some u := by
  intro j u hu
  rw [flat_bC, List.getElem?_map] at hu
  obtain ⟨x, hx, rfl⟩ := Option.map_eq_some_iff.1 hu
  obtain ⟨b, off', hA, hlt, hc⟩ := byte_at h hx
  injection hA with hA
  injection hA with e1 e2 _
  subst e1 e2
  rw [add_eq]
  by_cases hne : g = ob
  · subst hne
    rw [hO.cell] at hc
    rw [List.getElem?_toArray] at hc
    exfalso
    cases hk : off + j with
    | zero => rw [hk] at hc; injection hc with hc; exact hv0 _ hc
    | succ m => rw [hk] at hc; simp at hc
  · rw [far_cell v z hlt hne]; exact hc
theorem ownB_blk {W : World} {base g : Nat} {bs : List Int} (h : Blk W g 5 (bs.flatMap bC).toArray) (hb : base ≤ g) (hl : bs.length = 64) : OwnB W base (.slice (some ⟨g, 0, none⟩) 64 64) bs := by
  have hfl : (bs.flatMap bC).length = bs.length := by rw [flat_bC]; simp
  refine ⟨by rw [hfl, Nat.mul_one], .inr ⟨g, 64, _, by rw [hl], hb, h, by omega, by decide, ?_, ?_⟩⟩
  · simp [hfl, hl]
  · show List.take (bs.length * 1) (bs.flatMap bC) = _
    exact List.take_of_length_le (by omega)

set_option maxRecDepth 100000 in
set_option maxHeartbeats 2000000 in
theorem bootBytes_in (n : Nat) (hn : 16 ≤ n) (c f p q page : Int) (A : Option Addr) (cap : Nat) (ws : List Int) (hl : ws.length ≤ 600) (hw : Words ws) (w : World) (hA : WordsAt w A ws) :
    CallsIn Fence.wide n Tryz.prog 14 #[bootV c f p q A ws.length cap, .int .i64 page] w fun e W' => ∃ v, e = .returned v ∧ OwnB W' w.heap.size v (pageOf (mayB c f p q ws.length) ws page) ∧ Below w.heap.size w W' := by
  have h1 : 1 ≤ n := by omega
  have HPI := Lib.hid (fun W => pages_in (n - 1) c f p q A ws.length cap W)
  unfold bootV at HPI ⊢
  refine callsIn_of_wp_marks Tryz.func14 rfl trivial ?_ rfl
  simp only [Tryz.ntmps14, List.size_toArray, List.length_cons, List.length_nil, Nat.reduceAdd, Nat.reduceSub, Array.replicate_succ, Array.replicate_zero, List.push_toArray, List.append_toArray, List.nil_append, List.cons_append]
  gi_wp2
  refine wpIn_scope_straight ?_
  gi_wp2
  refine wpIn_label ?_
  gi_wp2_with (refine ⟨trivial, ?_⟩; gi_at_call 34; refine (HPI.out _).mono ?_; rintro e w' ⟨rfl, rfl⟩)
  have hBP := ((Blk.new (w.alloc (.cells #[.int .i64 c, .int .i64 f, .int .i64 p, .int .i64 q, .slice A ws.length cap] 24)) 3 #[.int .i64 page]).alloc (.cells #[.slice none 0 0] 39)).alloc (.cells #[.int .i64 c, .int .i64 f, .int .i64 p, .int .i64 q, .slice A ws.length cap] 24)
  have hBO := (Blk.new ((w.alloc (.cells #[.int .i64 c, .int .i64 f, .int .i64 p, .int .i64 q, .slice A ws.length cap] 24)).alloc (.cells #[.int .i64 page] 3)) 39 #[.slice none 0 0]).alloc (.cells #[.int .i64 c, .int .i64 f, .int .i64 p, .int .i64 q, .slice A ws.length cap] 24)
  have hBN := Blk.new (((w.alloc (.cells #[.int .i64 c, .int .i64 f, .int .i64 p, .int .i64 q, .slice A ws.length cap] 24)).alloc (.cells #[.int .i64 page] 3)).alloc (.cells #[.slice none 0 0] 39)) 24 #[.int .i64 c, .int .i64 f, .int .i64 p, .int .i64 q, .slice A ws.length cap]
  have hb0 := ((((Below.refl w.heap.size w).alloc (Nat.le_refl _) (.cells #[.int .i64 c, .int .i64 f, .int .i64 p, .int .i64 q, .slice A ws.length cap] 24)).alloc (by simp) (.cells #[.int .i64 page] 3)).alloc (by simp; omega) (.cells #[.slice none 0 0] 39)).alloc (by simp; omega) (.cells #[.int .i64 c, .int .i64 f, .int .i64 p, .int .i64 q, .slice A ws.length cap] 24)
  have hA0 := hA.below hb0
  have hsz : ((((w.alloc (.cells #[.int .i64 c, .int .i64 f, .int .i64 p, .int .i64 q, .slice A ws.length cap] 24)).alloc (.cells #[.int .i64 page] 3)).alloc (.cells #[.slice none 0 0] 39)).alloc (.cells #[.int .i64 c, .int .i64 f, .int .i64 p, .int .i64 q, .slice A ws.length cap] 24)).heap.size = w.heap.size + 4 := by simp
  simp only [World.size_alloc] at hBP hBO hBN
  generalize ((((w.alloc (.cells #[.int .i64 c, .int .i64 f, .int .i64 p, .int .i64 q, .slice A ws.length cap] 24)).alloc (.cells #[.int .i64 page] 3)).alloc (.cells #[.slice none 0 0] 39)).alloc (.cells #[.int .i64 c, .int .i64 f, .int .i64 p, .int .i64 q, .slice A ws.length cap] 24)) = W0 at *
  refine wpIn_rangeFunc_R rfl h1 (gf := 60) (lb := #[.pointer (some ⟨w.heap.size + 1 + 1 + 1, 0, none⟩)]) rfl trivial (enters_of Tryz.func60 (by kernel_rfl) rfl)
    (encs := encP) (Mm := MmP) (Kp := KpP w.heap.size (w.heap.size + 1 + 1 + 1) (W0.heap.size + 2)) (S := fun ys => ys.map Pg.nb = pagesL (mayB c f p q ws.length) ws) (Sp := fun pre => pre.map Pg.nb <+: pagesL (mayB c f p q ws.length) ws) (N := 64)
    (fun W hW hs => by
      have := pages1_seq (n - 1) (by omega) (W0.heap.size + 1) w.heap.size (w.heap.size + 1 + 1 + 1) c f p q A cap ws hl hw W (hBN.below hW hBN.lt) (hA0.below hW) (by omega)
      rw [hs] at this
      exact this)
    kpP_t (kpP_b (by omega) (by omega)) (fun _ => rfl) (fun x => mmP_own x _)
    (fun C pre W => Blk W (w.heap.size + 1) 3 #[.int .i64 page] ∧ Blk W (w.heap.size + 1 + 1) 39 #[.slice none 0 0] ∧ Below w.heap.size w W ∧ ∀ y ∈ pre, (y.n : Int) ≠ page)
    (fun C cc pre W => cc = .exit 0 ∧ ∃ g bs, ((∃ pre0 y, pre = pre0 ++ [y] ∧ (y.n : Int) = page ∧ bs = pad y.bs) ∧ (C ≤ g ∧ w.heap.size ≤ g) ∧ bs.length = 64) ∧ Blk W g 5 (bs.flatMap bC).toArray ∧ Blk W (w.heap.size + 1 + 1) 39 #[.slice (some ⟨g, 0, none⟩) 64 64] ∧ Below w.heap.size w W)
    (fun C => Priv.and (blk_priv (fun _ => #[.int .i64 page]) (by omega)) (Priv.and (blk_priv (fun _ => #[.slice none 0 0]) (by omega)) (Priv.and (below_priv (by omega) (by omega)) (pure_priv _))))
    (fun C cc s W W' row hs hg hr => by
      obtain ⟨e, g, bs, ⟨hx, ⟨hCg, hwg⟩, h64⟩, hG, hO, hB⟩ := hs
      refine ⟨e, g, bs, ⟨hx, ⟨hCg, hwg⟩, h64⟩, hG.grown hg (fun e => ?_), hO.grown hg (fun e => by have := (hr _ e.symm).1; omega), hB.grown hg (by have := hB.size; omega) (fun k e => by have := (hr k e).1; omega)⟩
      obtain ⟨_, h | ⟨o, ho, h⟩⟩ := hr _ e.symm
      · omega
      · rw [hG] at ho; injection ho with ho; subst ho; cases h)
    (fun C => ⟨hBP, hBO, hb0, fun y hy => by cases hy⟩)
    (fun x a' W => a' = { tmps := #[.agg #[.int .i64 c, .int .i64 f, .int .i64 p, .int .i64 q, .slice A ws.length cap], .int .i64 page, .pointer (some ⟨w.heap.size, 0, none⟩), .pointer (some ⟨w.heap.size + 1, 0, none⟩), .slice none 0 0, .pointer (some ⟨w.heap.size + 1 + 1, 0, none⟩), .int .i64 (x.n : Int), .slice (some ⟨x.g, x.off, none⟩) x.bs.length x.bs.length,
      .agg #[.int .i64 c, .int .i64 f, .int .i64 p, .int .i64 q, .slice A ws.length cap], .func (.func 60) #[] #[.pointer (some ⟨w.heap.size + 1 + 1 + 1, 0, none⟩)], .int .i64 (x.n : Int), .slice (some ⟨x.g, x.off, none⟩) x.bs.length x.bs.length, undef, undef, undef, undef, undef, undef, undef, undef], defers := [] } ∧ x.n ≤ 64)
    (fun x a' _ X Y row hs hg hr => hs)
    ?assign ?body ?done ?stop
  case assign =>
    rintro l C pre x W K hC1 hC2 ⟨hP, hO, hB, hne⟩ hmm hK
    simp only [encP] at hK ⊢
    gi_wp2
    exact hK _ _ (KeepsFrom.refl _ _) (kpP_r _ _ _ _) ⟨hP, hO, hB, hne⟩ hmm ⟨rfl, hmm.2.2⟩
  case body =>
    rintro l C pre x a' W hl1 hl2 hC1 hC2 ⟨hP, hO, hB, hne⟩ hmm ⟨rfl, hx64⟩ hlt
    have HP := Lib.hid hP
    have HO := Lib.hid hO
    have HB := Lib.hid hB
    have HM := Lib.hid hmm
    have p0 := hP.cell 0
    have plt := hP.lt
    have olt := hO.lt
    simp only [List.getElem?_toArray, List.getElem?_cons_zero] at p0
    have hsB := hB.size
    clear hP hO hB hmm
    by_cases hxp : (x.n : Int) = page
    · have hxs := hxp
      have o0 := HO.out.cell 0
      have ofr := HO.out.frozen 0
      simp only [List.getElem?_toArray, List.getElem?_cons_zero] at o0
      have hmk := make64 W
      have hsW : (W.setCell ⟨w.heap.size + 1 + 1, 0, none⟩ (.slice (some ⟨W.heap.size, 0, none⟩) 64 64)).heap.size = W.heap.size := by simp [World.setCell]
      have hz8 := Blk.new (W.setCell ⟨w.heap.size + 1 + 1, 0, none⟩ (.slice (some ⟨W.heap.size, 0, none⟩) 64 64)) 5 zeroRow
      rw [hsW] at hz8
      have HZ8 := Lib.hid hz8
      have HSRC := Lib.hid (byte_src (.slice (some ⟨W.heap.size, 0, none⟩) 64 64) (.cells zeroRow 5) HM.out.1 HO.out (fun b hb => by cases hb))
      have HO8 := Lib.hid ((HO.out.set_ 0 (.slice (some ⟨W.heap.size, 0, none⟩) 64 64)).alloc (.cells zeroRow 5))
      have hx64' := HM.out.2.1
      have hB8 := (HB.out.setCell (p := ⟨w.heap.size + 1 + 1, 0, none⟩) (by simp; omega) (.slice (some ⟨W.heap.size, 0, none⟩) 64 64)).alloc (by rw [hsW]; omega) (.cells zeroRow 5)
      have hb8 := ((Below.refl w.heap.size W).setCell (p := ⟨w.heap.size + 1 + 1, 0, none⟩) (by simp; omega) (.slice (some ⟨W.heap.size, 0, none⟩) 64 64)).alloc (by rw [hsW]; omega) (.cells zeroRow 5)
      have hs8 : ((W.setCell ⟨w.heap.size + 1 + 1, 0, none⟩ (.slice (some ⟨W.heap.size, 0, none⟩) 64 64)).alloc (.cells zeroRow 5)).heap.size = W.heap.size + 1 := by rw [World.size_alloc, hsW]
      have h8 : ∀ k, k < W.heap.size → k ≠ w.heap.size + 1 + 1 → ((W.setCell ⟨w.heap.size + 1 + 1, 0, none⟩ (.slice (some ⟨W.heap.size, 0, none⟩) 64 64)).alloc (.cells zeroRow 5)).heap[k]? = W.heap[k]? := fun k hk hne => (Below.heap_alloc _ _ k (by rw [hsW]; exact hk)).trans (Below.heap_setCell W _ _ k hne)
      have HB8 := Lib.hid hB8
      have Hb8 := Lib.hid hb8
      have HS8 := Lib.hid hs8
      have H8 := Lib.hid h8
      clear hz8 hsW hB8 hb8 hs8 h8
      obtain ⟨w5, hrun, hg5, hgr5⟩ := run_copy_over (P := Tryz.prog) ((W.setCell ⟨w.heap.size + 1 + 1, 0, none⟩ (.slice (some ⟨W.heap.size, 0, none⟩) 64 64)).alloc (.cells zeroRow 5)) 39 39 3 5 Tryz.underlying39 sizeB W.heap.size 0 64 64 ⟨x.g, x.off, none⟩ x.bs.length x.bs.length zeroRow 5 HZ8.out (x.bs.flatMap bC) (by rw [flat_bC, List.length_map]; exact (Nat.min_eq_left hx64').symm) HSRC.out (by rw [flat_bC, List.length_map]; simpa [zeroRow] using hx64') (by rw [flat_bC]; simp [Value.oneCell'])
      have HG5 := Lib.hid hg5
      have HGR5 := Lib.hid hgr5
      clear hg5 hgr5
      gi_wp2
      have hg5 := HG5.out
      have hgr5 := HGR5.out
      have hO5 := Blk.grown HO8.out hgr5 (by simp; omega)
      have hB5 := Below.grown HB8.out hgr5 (by rw [HS8.out]; omega) (fun k e => by cases e; omega)
      have hb5 := Below.grown Hb8.out hgr5 (by rw [HS8.out]; omega) (fun k e => by cases e; omega)
      have hs5 := hgr5.size
      rw [HS8.out] at hs5
      have h5 : ∀ k, k < W.heap.size → k ≠ w.heap.size + 1 + 1 → w5.heap[k]? = W.heap[k]? := fun k hk hne => (hgr5.block k (by rw [HS8.out]; omega) (by simp; omega)).trans (H8.out k hk hne)
      rw [splice_pad hx64'] at hg5
      refine ⟨⟨by omega, fun k o hk h0 ho => (h5 k (Array.getElem?_eq_some_iff.1 h0).1 (by omega)).trans h0⟩, ⟨hb5, h5 _ (by omega) (by omega), fun k hk hk2 => h5 k hk2 (by omega)⟩, rfl, W.heap.size, pad x.bs, ⟨⟨pre, x, rfl, hxs, rfl⟩, ⟨hC2, by omega⟩, pad_len hx64'⟩, hg5, ?_, hB5⟩
      simpa using hO5
    · gi_wp2
      exact ⟨KeepsFrom.refl _ _, kpP_r _ _ _ _, HP.out, HO.out, HB.out, fun y hy => by
        rcases List.mem_append.1 hy with h | h
        · exact hne y h
        · rw [List.mem_singleton.1 h]; exact hxp⟩
  case done =>
    rintro D C ys W hD hys ⟨hP, hO, hB, hne⟩ hK
    have HO := Lib.hid hO
    have HB := Lib.hid hB
    have o0 := hO.cell 0
    have olt := hO.lt
    simp only [List.getElem?_toArray, List.getElem?_cons_zero] at o0
    clear hO hB
    gi_wp2
    refine ⟨by simp, .inl ⟨_, _, rfl, run_takeDeferred hK, ?_⟩⟩
    exact ⟨_, results_tmp rfl _ _ _, _, rfl, by rw [page_none hys hne]; exact World.ownsRow_nil _ _ _ _, HB.out.trans (belowK_b (w := w) (Nat.le_refl _) W D _ _ (by omega) hK rfl rfl)⟩
  case stop =>
    rintro D C cc pre W hD hSp ⟨rfl, g, bs, ⟨⟨pre0, y, rfl, hy, rfl⟩, ⟨hCg, hwg⟩, h64⟩, hG, hO, hB⟩ hK
    have HO := Lib.hid hO
    have HB := Lib.hid hB
    have HG := Lib.hid hG
    have o0 := hO.cell 0
    have olt := hO.lt
    simp only [List.getElem?_toArray, List.getElem?_cons_zero] at o0
    clear hO hB hG
    gi_wp2
    refine ⟨by simp, .inl ⟨_, _, rfl, run_takeDeferred hK, ?_⟩⟩
    refine ⟨_, results_tmp rfl _ _ _, _, rfl, ?_, HB.out.trans (belowK_b (w := w) (Nat.le_refl _) W D _ _ (by omega) hK rfl rfl)⟩
    rw [page_some hSp hy]
    exact ownB_blk (blk_putObj HG.out hK) (by omega) h64
end
end Go.Proofs.YtpikgebfeleajaaGreatDoor
