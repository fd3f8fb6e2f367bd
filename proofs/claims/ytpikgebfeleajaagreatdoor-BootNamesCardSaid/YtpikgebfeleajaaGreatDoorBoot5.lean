/-
  Walks over package boot: the iterator over a program's pages, walked. No condition.
-/
import Derived.Deep.AppendLies
import Derived.Test.YtpikgebfeleajaaGreatDoorBoot3
import Derived.RangeFuncNested
namespace Go.Proofs.YtpikgebfeleajaaGreatDoor
section
open Go.RowKit Go.Shelf
set_option linter.unusedVariables false
set_option linter.unusedSimpArgs false
attribute [local go_sem] Oper.semAt_some

/-- A page as the iterator tells it: its number, where its bytes lie, its bytes. -/
structure Pg where
  n : Nat
  g : Nat
  off : Nat
  bs : List Int
def encP (y : Pg) : Array Value := #[.int .i64 (y.n : Int), .slice (some ⟨y.g, y.off, none⟩) y.bs.length y.bs.length]
def Pg.nb (y : Pg) : Nat × List Int := (y.n, y.bs)
def MmP (y : Pg) (W : World) : Prop := BytesAt W (some ⟨y.g, y.off, none⟩) y.bs ∧ (y.bs.length ≤ 64 ∧ y.n ≤ 64)
theorem rowsAt_own {β : Type} (A : Option Addr) (k : Nat) (rows : List (List Value)) : Own (fun (_ : β) W => RowsAt W A k rows) := fun s X Y row hs hg hr => fun i r hi => by
  obtain ⟨b, off, hA, hlt, hc⟩ := hs i r hi
  exact ⟨b, off, hA, Nat.lt_of_lt_of_le hlt hg.size, fun j v hv => cell_kept (hc j v hv) hg hr⟩
theorem own_pure {β : Type} (p : β → Prop) : Own (fun (s : β) (_ : World) => p s) := fun _ _ _ _ hs _ _ => hs
theorem mmP_own (y : Pg) (B : Nat) : OwnFrom B (fun (_ : Unit) W => MmP y W) := OwnFrom.and (Own.from (rowsAt_own _ _ _) _) (Own.from (own_pure (fun _ => y.bs.length ≤ 64 ∧ y.n ≤ 64)) _)
/-- What a round keeps: what lay below n₀; the iterator's boot; what the iterator has made. -/
def KpP (n₀ Bn B2 : Nat) (A B : World) : Prop := Below n₀ A B ∧ B.heap[Bn]? = A.heap[Bn]? ∧ ∀ k, B2 ≤ k → k < A.heap.size → B.heap[k]? = A.heap[k]?
def chunkB (bs : List Int) (k : Nat) : List Int := (bs.drop (64 * k)).take 64
theorem chunkB_len (bs : List Int) (k : Nat) : (chunkB bs k).length = chunkLen bs.length k := by unfold chunkB chunkLen; rw [List.length_take, List.length_drop]
def chunkList (bs : List Int) : List (Nat × List Int) := (List.finRange (chunks bs.length)).map fun k => (k.val, chunkB bs k.val)
def pagesL (may : Bool) (ws : List Int) : List (Nat × List Int) := if may then chunkList (bytesL ws) else []
/-- The pages told when the inner chunks ks have come. -/
def outP {m : Nat} (g : Nat) (bs : List Int) (ks : List (Fin m)) : List Pg := ks.zipIdx.map fun x => ⟨x.2, g, 64 * x.1.val, chunkB bs x.1.val⟩
theorem outP_snoc {m : Nat} (g : Nat) (bs : List Int) (ks : List (Fin m)) (x : Fin m) : outP g bs (ks ++ [x]) = outP g bs ks ++ [⟨ks.length, g, 64 * x.val, chunkB bs x.val⟩] := by
  unfold outP; rw [List.zipIdx_append, List.map_append]; simp
theorem outP_len {m : Nat} (g : Nat) (bs : List Int) (ks : List (Fin m)) : (outP g bs ks).length = ks.length := by unfold outP; simp
theorem outP_take {m : Nat} (g : Nat) (bs : List Int) : ∀ k, k ≤ m → (outP g bs ((List.finRange m).take k)).map Pg.nb = ((List.finRange m).map fun k => (k.val, chunkB bs k.val)).take k
  | 0, _ => by simp [outP]
  | k + 1, h => by
    have hk : k < m := by omega
    rw [finRange_take hk, outP_snoc, List.map_append, outP_take g bs k (by omega), List.take_add_one]
    congr 1
    rw [List.length_take]
    simp [Pg.nb, hk, Nat.min_eq_left (Nat.le_of_lt hk)]
theorem outP_all {m : Nat} (g : Nat) (bs : List Int) : (outP g bs (List.finRange m)).map Pg.nb = (List.finRange m).map fun k => (k.val, chunkB bs k.val) := by
  have := outP_take (m := m) g bs m (Nat.le_refl _)
  rw [finRange_all (Nat.le_refl _)] at this
  rw [this, List.take_of_length_le (by simp)]
theorem outP_pre {m : Nat} (g : Nat) (bs : List Int) {pre : List (Fin m)} (h : pre <+: List.finRange m) : (outP g bs pre).map Pg.nb <+: (List.finRange m).map fun k => (k.val, chunkB bs k.val) := by
  have hp : pre = (List.finRange m).take pre.length := List.prefix_iff_eq_take.1 h
  have hl : pre.length ≤ m := by have := h.length_le; simpa using this
  have := outP_take (m := m) g bs pre.length hl
  rw [← hp] at this
  rw [this]
  exact List.take_prefix _ _
theorem bytes_chunk {W : World} {g : Nat} {bs : List Int} (h : BytesAt W (some ⟨g, 0, none⟩) bs) (k : Nat) : BytesAt W (some ⟨g, 64 * k, none⟩) (chunkB bs k) := fun i r hr => by
  rw [List.getElem?_map] at hr
  obtain ⟨x, hx, rfl⟩ := Option.map_eq_some_iff.1 hr
  unfold chunkB at hx
  rw [List.getElem?_take] at hx
  split at hx
  · rw [List.getElem?_drop] at hx
    obtain ⟨b, off, hA, hlt, hc⟩ := h (64 * k + i) (bC x) (by rw [List.getElem?_map, hx]; rfl)
    injection hA with hA
    injection hA with e1 e2 _
    subst e1 e2
    exact ⟨g, 64 * k, rfl, hlt, fun j v hv => by have := hc j v hv; simpa [Nat.mul_one] using this⟩
  · cases hx
theorem room_none (k : Nat) : Fence.wide.room k := fun d h => by cases h
theorem yield_deep {m : Nat} (m' l' : Nat) {P : Program} {l : Nat} {args : Array Value} {W : World} {R : Ending → World → Prop} (h : YieldAt Fence.wide m P l args W R) : YieldAt (Fence.wide.inRound l') m' P l args W R := by
  obtain ⟨fn, tmps, assign, body, hy, h1, h2⟩ := h
  exact ⟨fn, tmps, assign, body, hy, h1, fun c cs _ => h2 c cs (room_none _)⟩

theorem pages_in (n : Nat) (c f p q : Int) (A : Option Addr) (len cap : Nat) (w : World) :
    CallsIn Fence.wide n Tryz.prog 34 #[bootV c f p q A len cap] w fun e w' => e = .returned (.func (.func 60) #[] #[.pointer (some ⟨w.heap.size, 0, none⟩)]) ∧ w' = w.alloc (.cells #[.int .i64 c, .int .i64 f, .int .i64 p, .int .i64 q, .slice A len cap] 24) := by
  unfold bootV
  refine callsIn_of_wp Tryz.func34 rfl trivial ?_ rfl
  simp only [Tryz.ntmps34, List.size_toArray, List.length_cons, List.length_nil, Nat.reduceAdd, Nat.reduceSub, Array.replicate_succ, Array.replicate_zero, List.push_toArray, List.append_toArray, List.nil_append, List.cons_append]
  gi_wp2
  go_ret
  exact ⟨rfl, rfl⟩
theorem rcells {w : World} {g : Nat} {t : TypeId} {a b c d e : Value} (h : Blk w g t #[a, b, c, d, e]) : w.cell? ⟨g, 0, none⟩ = some a ∧ w.cell? ⟨g, 1, none⟩ = some b ∧ w.cell? ⟨g, 2, none⟩ = some c ∧ w.cell? ⟨g, 3, none⟩ = some d ∧ w.cell? ⟨g, 4, none⟩ = some e ∧ g < w.heap.size :=
  ⟨h.cell 0, h.cell 1, h.cell 2, h.cell 3, h.cell 4, h.lt⟩
theorem ownB_some {w : World} {base : Nat} {v : Value} {l : List Int} (h : OwnB w base v l) (hp : 0 < l.length) : ∃ g cv, v = .slice (some ⟨g, 0, none⟩) l.length cv ∧ base ≤ g ∧ l.length ≤ cv ∧ cv ≤ 9223372036854775807 ∧ BytesAt w (some ⟨g, 0, none⟩) l ∧ g < w.heap.size := by
  obtain ⟨A, c, hv, hB, _⟩ := ownB_at h
  rcases h.2 with ⟨_, h0⟩ | ⟨g, cap, cur, e, hb, hg, hnc, hm, _⟩
  · omega
  · rw [e] at hv
    injection hv with e1 e2 e3
    subst e1
    unfold maxLen at hm
    exact ⟨g, cap, e, hb, hnc, by omega, hB, (Array.getElem?_eq_some_iff.1 hg).1⟩
theorem below_own {B : Nat} {β : Type} {J : β → World → Prop} {C : Nat} (h : Priv B C J) {s : β} {W W' : World} (hs : J s W) (hb : Below W.heap.size W W') : J s W' := h.below hs hb

end
section
open Go.RowKit Go.Shelf
set_option linter.unusedVariables false
set_option linter.unusedSimpArgs false
attribute [local go_sem] Oper.semAt_some

theorem kpC_t {n₀ Bs Bn : Nat} {A B C : World} (h1 : Below n₀ A B ∧ B.heap[Bs]? = A.heap[Bs]? ∧ B.heap[Bn]? = A.heap[Bn]?) (h2 : Below n₀ B C ∧ C.heap[Bs]? = B.heap[Bs]? ∧ C.heap[Bn]? = B.heap[Bn]?) : Below n₀ A C ∧ C.heap[Bs]? = A.heap[Bs]? ∧ C.heap[Bn]? = A.heap[Bn]? :=
  ⟨h1.1.trans h2.1, h2.2.1.trans h1.2.1, h2.2.2.trans h1.2.2⟩
theorem rows_same {W W' : World} {g off k : Nat} {rows : List (List Value)} (h : RowsAt W (some ⟨g, off, none⟩) k rows) (hg : W'.heap[g]? = W.heap[g]?) (hs : W.heap.size ≤ W'.heap.size) : RowsAt W' (some ⟨g, off, none⟩) k rows := fun i r hr => by
  obtain ⟨b, off', hA, hlt, hc⟩ := h i r hr
  injection hA with hA
  injection hA with e1 e2 _
  subst e1 e2
  have hcc : ∀ k, W'.cell? ⟨g, k, none⟩ = W.cell? ⟨g, k, none⟩ := fun k => by
    unfold World.cell?
    simp only [hg]
  exact ⟨g, off, rfl, Nat.lt_of_lt_of_le hlt hs, fun j v hv => (hcc _).trans (hc j v hv)⟩
theorem size_own {β : Type} (m : Nat) : Own (fun (_ : β) W => m ≤ W.heap.size) := fun _ _ _ _ hs hg _ => Nat.le_trans hs hg.size
set_option maxRecDepth 100000 in
set_option maxHeartbeats 4000000 in
theorem pages1_seq (n : Nat) (hn : 12 ≤ n) (l n₀ Bn : Nat) (c f p q : Int) (A : Option Addr) (cap : Nat) (ws : List Int) (hl : ws.length ≤ 600) (hw : Words ws) (W : World) (hBn : Blk W Bn 24 #[.int .i64 c, .int .i64 f, .int .i64 p, .int .i64 q, .slice A ws.length cap]) (hA : WordsAt W A ws) (hn₀ : n₀ ≤ W.heap.size) :
    SeqR Fence.wide n Tryz.prog 60 #[.pointer (some ⟨Bn, 0, none⟩)] encP MmP (KpP n₀ Bn W.heap.size) (fun ys => ys.map Pg.nb = pagesL (mayB c f p q ws.length) ws) (fun pre => pre.map Pg.nb <+: pagesL (mayB c f p q ws.length) ws) 64 l W := by
  intro J Jx hJ hJx hY h0
  have h1 : 1 ≤ n := by omega
  obtain ⟨x0, x1, x2, x3, x4, xlt⟩ := rcells hBn
  have HCK := Lib.hid (fun W => check_any (w := W) c f p q A ws.length cap (by omega))
  have HIB := Lib.hid (fun W1 (hW : Below W.heap.size W W1) => isaBytes_any (w := W1) A cap ws (by omega) (hA.below hW) hw)
  unfold bootV at HCK
  have hY0 := (Below.refl W.heap.size W).alloc (Nat.le_refl _) (.cells #[.func (.yield l) #[] #[]] 117)
  have hYb := Blk.new W 117 #[.func (.yield l) #[] #[]]
  have HB0 := Lib.hid hY0
  have HYB := Lib.hid hYb
  have HBN := Lib.hid hBn
  have HS := Lib.hid h0
  clear hY0 hYb h0 hBn hA
  refine callsIn_of_wp_marks Tryz.func60 rfl trivial ?_ rfl
  simp only [Tryz.ntmps60, List.size_toArray, List.length_cons, List.length_nil, Nat.reduceAdd, Nat.reduceSub, Array.replicate_succ, Array.replicate_zero, List.push_toArray, List.append_toArray, List.nil_append, List.cons_append]
  cases hm : mayB c f p q ws.length with
  | false =>
    rw [hm] at HCK
    clear hm
    gi_wp2_with (refine ⟨trivial, ?_⟩; gi_at_call 10; refine (callsIn_wide.2 (HCK.out _)).mono ?_; rintro e w1 ⟨rfl, hb1⟩)
    exact ⟨_, results_none rfl _ _ _, ⟨_, rfl⟩, W.heap.size, .inl ⟨[], rfl, (hJ _).below (HS.out _) (HB0.out.trans (hb1.mono (by rw [World.size_alloc]; omega)))⟩⟩
  | true =>
    rw [hm] at HCK
    have HMAY := Lib.hid hm
    clear hm
    gi_wp2_with (refine ⟨trivial, ?_⟩; gi_at_call 10; refine (callsIn_wide.2 (HCK.out _)).mono ?_; rintro e w1 ⟨rfl, hb1⟩; have HB1 := Lib.hid (HB0.out.trans (hb1.mono (by rw [World.size_alloc]; omega))); have HY1 := Lib.hid (HYB.out.below hb1 HYB.out.lt); clear hb1; have bn1 := HBN.out.below HB1.out HBN.out.lt; obtain ⟨y0, y1, y2, y3, y4, ylt⟩ := rcells bn1; clear bn1)
    have hpos : 1 ≤ ws.length := by
      have := (mayB_iff c f p q ws.length).1 HMAY.out
      omega
    have hlb : (bytesL ws).length = 4 * ws.length := bytesL_len ws
    have hb0 : 0 < (bytesL ws).length := by omega
    have hb1 : (bytesL ws).length ≤ 2400 := by omega
    have HPL := Lib.hid (show pagesL true ws = chunkList (bytesL ws) from rfl)
    clear hlb hpos
    generalize bytesL ws = bs at *
    have HB2 := Lib.hid (HB1.out.alloc HB1.out.size (.cells #[.int .i64 0] 3))
    have HN2 := Lib.hid (Blk.new w1 3 #[.int .i64 0])
    have HY2 := Lib.hid (HY1.out.alloc (.cells #[.int .i64 0] 3))
    have hs1 := HY1.out.lt
    have hsz2 : (w1.alloc (.cells #[.int .i64 0] 3)).heap.size = w1.heap.size + 1 := World.size_alloc ..
    have HSZ2 := Lib.hid hsz2
    clear hsz2 HCK HB1 HY1 y0 y1 y2 y3 y4 ylt x0 x1 x2 x3 x4
    gi_wp2_with (refine ⟨trivial, ?_⟩; gi_at_call 62; refine (callsIn_wide.2 (HIB.out _ HB2.out)).mono ?_; rintro e w3 ⟨v, rfl, hown, hb3⟩; obtain ⟨g, cv, rfl, hbg, hnc, hmc, hBA, hglt⟩ := ownB_some hown hb0; have HG := Lib.hid hBA; have hs3 := hb3.size; rw [HSZ2.out] at hs3; have HB3 := Lib.hid (HB2.out.trans (hb3.mono HB2.out.size)); have HN3 := Lib.hid (HN2.out.below hb3 HN2.out.lt); have HY3 := Lib.hid (HY2.out.below hb3 HY2.out.lt); clear hown hb3 hBA)
    have hnpos : W.heap.size ≤ w1.heap.size := by omega
    have hpre : w1.heap.size < w3.heap.size := by omega
    rw [HSZ2.out] at hbg
    gi_wp2_with (refine ⟨trivial, ?_⟩; gi_at_call 61; refine (chunk_in Fence.wide _ trivial rfl _ _ _ _).mono ?_; rintro e w4 ⟨rfl, rfl⟩)
    have bS := (Blk.new w3 39 #[.slice (some ⟨g, 0, none⟩) bs.length cv]).alloc (.cells #[.int .i64 64] 3)
    have bN := Blk.new (w3.alloc (.cells #[.slice (some ⟨g, 0, none⟩) bs.length cv] 39)) 3 #[.int .i64 64]
    rw [World.size_alloc] at bN
    have hB4 := (HB3.out.alloc (by omega) (.cells #[.slice (some ⟨g, 0, none⟩) bs.length cv] 39)).alloc (by simp; omega) (.cells #[.int .i64 64] 3)
    have hN4 := (HN3.out.alloc (.cells #[.slice (some ⟨g, 0, none⟩) bs.length cv] 39)).alloc (.cells #[.int .i64 64] 3)
    have hY4 := (HY3.out.alloc (.cells #[.slice (some ⟨g, 0, none⟩) bs.length cv] 39)).alloc (.cells #[.int .i64 64] 3)
    have hG4 := (HG.out.alloc (.cells #[.slice (some ⟨g, 0, none⟩) bs.length cv] 39)).alloc (.cells #[.int .i64 64] 3)
    have hsz4 : ((w3.alloc (.cells #[.slice (some ⟨g, 0, none⟩) bs.length cv] 39)).alloc (.cells #[.int .i64 64] 3)).heap.size = w3.heap.size + 2 := by simp
    obtain ⟨W4, hW4⟩ : ∃ W4, (w3.alloc (.cells #[.slice (some ⟨g, 0, none⟩) bs.length cv] 39)).alloc (.cells #[.int .i64 64] 3) = W4 := ⟨_, rfl⟩
    rw [hW4] at bS bN hB4 hN4 hY4 hG4 hsz4 ⊢
    clear hW4
    refine wpIn_rangeFunc_ownH rfl h1 (gf := 88) (lb := #[.pointer (some ⟨w3.heap.size, 0, none⟩), .pointer (some ⟨w3.heap.size + 1, 0, none⟩)]) rfl trivial (enters_of Tryz.func88 (by kernel_rfl) rfl)
      (chunk_stops (n - 1) (by omega) w3.heap.size (w3.heap.size + 1) n₀ g bs.length cv hnc (by omega) hmc W4 bS bN) kpC_t (fun W l o o' hl h h1 h2 => ⟨belowK_b (by omega) W l o o' hl h h1 h2, World.putObj_heap_other (by omega), World.putObj_heap_other (by omega)⟩) (Below.refl _ _) (fun _ => rfl)
      (fun pre W' => J W4.heap.size (outP g bs pre) W' ∧ Blk W' w1.heap.size 3 #[.int .i64 (pre.length : Int)] ∧ Blk W' W.heap.size 117 #[.func (.yield l) #[] #[]] ∧ BytesAt W' (some ⟨g, 0, none⟩) bs ∧ W4.heap.size ≤ W'.heap.size)
      (fun cc pre W' => cc = .ret ∧ Jx W4.heap.size (outP g bs pre) W')
      (OwnFrom.and (fun s X Y row hs hg hr => (hJ W4.heap.size).from_ (B' := W4.heap.size) (by omega) (outP g bs s) X Y row hs hg hr) (OwnFrom.and (Own.from (blk_own _ _ _) _) (OwnFrom.and (Own.from (blk_own _ _ (fun _ => #[.func (.yield l) #[] #[]])) _) (OwnFrom.and (Own.from (rowsAt_own _ _ _) _) (Own.from (size_own _) _)))))
      (fun cc s X Y row hs hg hr => ⟨hs.1, (hJx W4.heap.size).from_ (B' := W4.heap.size) (by omega) (outP g bs s) X Y row hs.2 hg hr⟩)
      ⟨(hJ _).below (HS.out _) hB4, hN4, hY4, hG4, Nat.le_refl _⟩
      (fun x a' _ => a' = { tmps := #[.func (.yield l) #[] #[], .pointer (some ⟨Bn, 0, none⟩), .pointer (some ⟨W.heap.size, 0, none⟩), .pointer (some ⟨w1.heap.size, 0, none⟩), .slice (some ⟨g, 64 * x.val, none⟩) (chunkLen bs.length x.val) (chunkLen bs.length x.val),
        .agg #[.int .i64 c, .int .i64 f, .int .i64 p, .int .i64 q, .slice A ws.length cap], .int .i64 0, .bool false, .pointer (some ⟨Bn, 4, none⟩), .slice A ws.length cap, .slice (some ⟨g, 0, none⟩) bs.length cv,
        .func (.func 88) #[] #[.pointer (some ⟨w3.heap.size, 0, none⟩), .pointer (some ⟨w3.heap.size + 1, 0, none⟩)], .slice (some ⟨g, 64 * x.val, none⟩) (chunkLen bs.length x.val) (chunkLen bs.length x.val), undef, undef, undef, undef, undef, undef, undef], defers := [] })
      (fun x a' _ X Y row hs hg hr => hs)
      ?assign ?body ?done ?stop
    case assign =>
      rintro l' pre x W' K ⟨hj, hNb, hYb, hBb, hsz⟩ hK
      simp only [encC] at hK ⊢
      gi_wp2
      exact hK _ _ (KeepsFrom.refl _ _) ⟨Below.refl _ _, rfl, rfl⟩ ⟨hj, hNb, hYb, hBb, hsz⟩ rfl
    case body =>
      rintro l' pre x a' W' hl' hr' ⟨hj, hNb, hYb, hBb, hsz⟩ rfl hlt
      have y0 := hYb.cell 0
      have n0 := hNb.cell 0
      have ylt := hYb.lt
      have nlt := hNb.lt
      simp only [List.getElem?_toArray, List.getElem?_cons_zero] at y0 n0
      have hcb : chunks bs.length ≤ 40 := by unfold chunks; omega
      have hyd := hY W4.heap.size (outP g bs pre) ⟨pre.length, g, 64 * x.val, chunkB bs x.val⟩ W' (by omega) hsz hj ⟨bytes_chunk hBb x.val, by rw [chunkB_len]; unfold chunkLen; omega, by show pre.length ≤ 64; omega⟩ (by rw [outP_len]; omega)
      rw [← outP_snoc] at hyd
      simp only [encP, chunkB_len] at hyd
      have hyd := yield_deep (n - 1 - 1 - 1) l' hyd
      obtain ⟨fn, tmps, assign, body, hy, hR⟩ := hyd
      have HNB := Lib.hid hNb
      have HYB' := Lib.hid hYb
      have HBB := Lib.hid hBb
      clear hNb hYb hBb hG4 hY4 hN4 bS bN hj
      gi_wp2
      refine ⟨fun _ => by omega, hR.mono ?_⟩
      rintro e W5 ⟨⟨hbl5, hbn5, hk5⟩, (⟨rfl, hj5⟩ | ⟨rfl, hj5⟩)⟩
      · have HNB5 := Lib.hid (show Blk W5 w1.heap.size 3 #[.int .i64 (pre.length : Int)] from (hk5 _ (by omega) (by omega)).trans HNB.out)
        have m0 := HNB5.out.cell 0
        have mlt := HNB5.out.lt
        have mf := HNB5.out.frozen 0
        simp only [List.getElem?_toArray, List.getElem?_cons_zero] at m0
        have hs5 := hbl5.size
        have hpl : pre.length ≤ 40 := by omega
        clear hy hR y0 n0
        gi_wp2
        have hset : ∀ k, k ≠ w1.heap.size → (W5.setCell ⟨w1.heap.size, 0, none⟩ (.int .i64 ((pre.length : Int) + 1))).heap[k]? = W5.heap[k]? := fun k hk => Below.heap_setCell W5 _ _ k hk
        have hss : (W5.setCell ⟨w1.heap.size, 0, none⟩ (.int .i64 ((pre.length : Int) + 1))).heap.size = W5.heap.size := by simp [World.setCell]
        have hNB6 := HNB5.out.set_ 0 (.int .i64 ((pre.length : Int) + 1))
        have hj6 := (hJ W4.heap.size).setCell (p := ⟨w1.heap.size, 0, none⟩) (.int .i64 ((pre.length : Int) + 1)) hj5 hnpos (show w1.heap.size < W4.heap.size by omega)
        have hbl6 := hbl5.setCell (p := ⟨w1.heap.size, 0, none⟩) (show n₀ ≤ w1.heap.size by omega) (.int .i64 ((pre.length : Int) + 1))
        generalize W5.setCell ⟨w1.heap.size, 0, none⟩ (.int .i64 ((pre.length : Int) + 1)) = W6 at *
        refine ⟨⟨by omega, fun k o hk h0 ho => (hset k (by omega)).trans ((hk5 k (by omega) (Array.getElem?_eq_some_iff.1 h0).1).trans h0)⟩, ⟨hbl6, (hset _ (by omega)).trans (hk5 _ (by omega) (by omega)), (hset _ (by omega)).trans (hk5 _ (by omega) (by omega))⟩, hj6, ?_, ((hset _ (by omega)).trans (hk5 _ (by omega) (by omega))).trans HYB'.out, rows_same HBB.out ((hset _ (by omega)).trans (hk5 _ (by omega) (by omega))) (by omega), by omega⟩
        simpa using hNB6
      · gi_wp2
        have hs5 := hbl5.size
        exact ⟨⟨hs5, fun k o hk h0 ho => (hk5 k (by omega) (Array.getElem?_eq_some_iff.1 h0).1).trans h0⟩, rfl, hj5⟩
    case done =>
      rintro D ys W' hD rfl ⟨hj, hNb, hYb, hBb, hsz⟩ hK
      gi_wp2
      refine ⟨by simp, .inl ⟨_, _, rfl, run_takeDeferred hK, ?_⟩⟩
      exact ⟨_, results_none rfl _ _ _, ⟨_, rfl⟩, W4.heap.size, .inl ⟨outP g bs _, by rw [outP_all, HPL.out]; rfl, (hJ _).putObj _ hj (by omega) hK rfl⟩⟩
    case stop =>
      rintro D cc pre W' hD hpre' ⟨rfl, hj⟩ hK
      gi_wp2
      refine ⟨by simp, .inl ⟨_, _, rfl, run_takeDeferred hK, ?_⟩⟩
      exact ⟨_, results_none rfl _ _ _, ⟨_, rfl⟩, W4.heap.size, .inr ⟨outP g bs pre, by rw [HPL.out]; exact outP_pre g bs hpre', (hJx _).putObj _ hj (by omega) hK rfl⟩⟩
end
end Go.Proofs.YtpikgebfeleajaaGreatDoor
