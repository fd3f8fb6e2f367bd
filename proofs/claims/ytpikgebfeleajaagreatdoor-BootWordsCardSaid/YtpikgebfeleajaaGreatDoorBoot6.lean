/-
  Walks over package boot: Pages. No condition.
-/
import Derived.Test.YtpikgebfeleajaaGreatDoorBoot5
namespace Go.Proofs.YtpikgebfeleajaaGreatDoor
open Go.RowKit Go.Shelf
set_option linter.unusedVariables false
set_option linter.unusedSimpArgs false
attribute [local go_sem] Oper.semAt_some

theorem blk_priv {β : Type} {B C k : Nat} {t : TypeId} (f : β → Array Value) (hk : k < B) : Priv B C (fun s W => Blk W k t (f s)) := fun s W W' row hs hg hr => Blk.grown hs hg (fun e => by have := (hr k e.symm).1; omega)
theorem below_priv {β : Type} {B C n₀ : Nat} {w : World} (h1 : n₀ ≤ B) (h3 : n₀ ≤ w.heap.size) : Priv B C (fun (_ : β) W => Below n₀ w W) := fun s W W' row hs hg hr => Below.grown hs hg (by have := hs.size; omega) (fun k e => by have := (hr k e).1; omega)
theorem Priv.and {β : Type} {B C : Nat} {J K : β → World → Prop} (h : Priv B C J) (k : Priv B C K) : Priv B C (fun s W => J s W ∧ K s W) := fun s W W' row hs hg hr => ⟨h s W W' row hs.1 hg hr, k s W W' row hs.2 hg hr⟩
theorem pure_priv {β : Type} {B C : Nat} (p : β → Prop) : Priv B C (fun s (_ : World) => p s) := fun _ _ _ _ hs _ _ => hs
theorem kpP_t {n₀ Bn B2 : Nat} {X Y Z : World} (h : KpP n₀ Bn B2 X Y) (k : KpP n₀ Bn B2 Y Z) : KpP n₀ Bn B2 X Z :=
  ⟨h.1.trans k.1, k.2.1.trans h.2.1, fun i hi hl => (k.2.2 i hi (Nat.lt_of_lt_of_le hl h.1.size)).trans (h.2.2 i hi hl)⟩
theorem kpP_r (n₀ Bn B2 : Nat) (X : World) : KpP n₀ Bn B2 X X := ⟨Below.refl _ _, rfl, fun _ _ _ => rfl⟩
theorem kpP_b {n₀ Bn s : Nat} (h1 : n₀ ≤ s + 1) (h2 : Bn < s + 1) (W : World) (r : Loop) (o' : Obj) (hl : W.heap[s + 1]? = some (.loop r)) : KpP n₀ Bn (s + 2) W (W.putObj (s + 1) o') :=
  ⟨(Below.refl n₀ W).grown (grownBy_putObj' W (s + 1) o') (by have := (Array.getElem?_eq_some_iff.1 hl).1; omega) (fun k e => by cases e; omega), World.putObj_heap_other (by omega), fun k hk _ => World.putObj_heap_other (by omega)⟩
theorem kpP_set {n₀ Bn B2 : Nat} (W : World) (b : Nat) (v : Value) (h1 : n₀ ≤ b) (h2 : b ≠ Bn) (h3 : b < B2) : KpP n₀ Bn B2 W (W.setCell ⟨b, 0, none⟩ v) :=
  ⟨(Below.refl n₀ W).setCell h1 v, Below.heap_setCell W _ _ _ (by simp; omega), fun k hk _ => Below.heap_setCell W _ _ _ (by simp; omega)⟩

def lastN (l : List Pg) : Nat := match l.getLast? with | none => 0 | some y => y.n + 1
theorem lastN_snoc (pre : List Pg) (y : Pg) : lastN (pre ++ [y]) = y.n + 1 := by simp [lastN]
theorem lastN_nb (ys : List Pg) : lastN ys = match (ys.map Pg.nb).getLast? with | none => 0 | some y => y.1 + 1 := by
  unfold lastN; rw [List.getLast?_map]; cases ys.getLast? <;> rfl
theorem lastN_all {may : Bool} {ws : List Int} {ys : List Pg} (h : ys.map Pg.nb = pagesL may ws) : lastN ys = pagesN may ws.length := by
  rw [lastN_nb, h]
  cases may with
  | false => rfl
  | true =>
    show (match (chunkList (bytesL ws)).getLast? with | none => 0 | some y => y.1 + 1) = (ws.length + 15) / 16
    unfold chunkList
    have hm : chunks (bytesL ws).length = (ws.length + 15) / 16 := by unfold chunks; rw [bytesL_len]; omega
    rw [← hm]
    generalize chunks (bytesL ws).length = m
    cases m with
    | zero => simp
    | succ k =>
      rw [List.getLast?_map, List.getLast?_eq_getElem?]
      simp

set_option maxRecDepth 100000 in
set_option maxHeartbeats 2000000 in
theorem bootPages_in (n : Nat) (hn : 16 ≤ n) (c f p q : Int) (A : Option Addr) (cap : Nat) (ws : List Int) (hl : ws.length ≤ 600) (hw : Words ws) (w : World) (hA : WordsAt w A ws) :
    CallsIn Fence.wide n Tryz.prog 16 #[bootV c f p q A ws.length cap] w fun e W' => e = .returned (.int .i64 (pagesN (mayB c f p q ws.length) ws.length : Nat)) ∧ Below w.heap.size w W' := by
  have h1 : 1 ≤ n := by omega
  have HPI := Lib.hid (fun W => pages_in (n - 1) c f p q A ws.length cap W)
  unfold bootV at HPI ⊢
  refine callsIn_of_wp_marks Tryz.func16 rfl trivial ?_ rfl
  simp only [Tryz.ntmps16, List.size_toArray, List.length_cons, List.length_nil, Nat.reduceAdd, Nat.reduceSub, Array.replicate_succ, Array.replicate_zero, List.push_toArray, List.append_toArray, List.nil_append, List.cons_append]
  gi_wp2_with (refine ⟨trivial, ?_⟩; gi_at_call 34; refine (HPI.out _).mono ?_; rintro e w' ⟨rfl, rfl⟩)
  have hBX := (Blk.new w 24 #[.int .i64 c, .int .i64 f, .int .i64 p, .int .i64 q, .slice A ws.length cap]).alloc (.cells #[.int .i64 0] 3)
  have hBO := (Blk.new (w.alloc (.cells #[.int .i64 c, .int .i64 f, .int .i64 p, .int .i64 q, .slice A ws.length cap] 24)) 3 #[.int .i64 0]).alloc (.cells #[.int .i64 c, .int .i64 f, .int .i64 p, .int .i64 q, .slice A ws.length cap] 24)
  have hBN := Blk.new ((w.alloc (.cells #[.int .i64 c, .int .i64 f, .int .i64 p, .int .i64 q, .slice A ws.length cap] 24)).alloc (.cells #[.int .i64 0] 3)) 24 #[.int .i64 c, .int .i64 f, .int .i64 p, .int .i64 q, .slice A ws.length cap]
  have hb0 := (((Below.refl w.heap.size w).alloc (Nat.le_refl _) (.cells #[.int .i64 c, .int .i64 f, .int .i64 p, .int .i64 q, .slice A ws.length cap] 24)).alloc (by simp) (.cells #[.int .i64 0] 3)).alloc (by simp; omega) (.cells #[.int .i64 c, .int .i64 f, .int .i64 p, .int .i64 q, .slice A ws.length cap] 24)
  have hA0 := hA.below hb0
  have hsz : (((w.alloc (.cells #[.int .i64 c, .int .i64 f, .int .i64 p, .int .i64 q, .slice A ws.length cap] 24)).alloc (.cells #[.int .i64 0] 3)).alloc (.cells #[.int .i64 c, .int .i64 f, .int .i64 p, .int .i64 q, .slice A ws.length cap] 24)).heap.size = w.heap.size + 3 := by simp
  simp only [World.size_alloc] at hBO hBN
  clear hBX
  generalize (((w.alloc (.cells #[.int .i64 c, .int .i64 f, .int .i64 p, .int .i64 q, .slice A ws.length cap] 24)).alloc (.cells #[.int .i64 0] 3)).alloc (.cells #[.int .i64 c, .int .i64 f, .int .i64 p, .int .i64 q, .slice A ws.length cap] 24)) = W0 at *
  refine wpIn_rangeFunc_R rfl h1 (gf := 60) (lb := #[.pointer (some ⟨w.heap.size + 1 + 1, 0, none⟩)]) rfl trivial (enters_of Tryz.func60 (by kernel_rfl) rfl)
    (encs := encP) (Mm := MmP) (Kp := KpP w.heap.size (w.heap.size + 1 + 1) (W0.heap.size + 2)) (S := fun ys => ys.map Pg.nb = pagesL (mayB c f p q ws.length) ws) (Sp := fun pre => pre.map Pg.nb <+: pagesL (mayB c f p q ws.length) ws) (N := 64)
    (fun W hW hs => by
      have := pages1_seq (n - 1) (by omega) (W0.heap.size + 1) w.heap.size (w.heap.size + 1 + 1) c f p q A cap ws hl hw W (hBN.below hW hBN.lt) (hA0.below hW) (by omega)
      rw [hs] at this
      exact this)
    kpP_t (kpP_b (by omega) (by omega)) (fun _ => rfl) (fun x => mmP_own x _)
    (fun C pre W => Blk W (w.heap.size + 1) 3 #[.int .i64 (lastN pre : Int)] ∧ Below w.heap.size w W)
    (fun C cc pre W => False)
    (fun C => Priv.and (blk_priv _ (by omega)) (below_priv (by omega) (by omega)))
    (fun C cc s W W' row hs hg hr => hs.elim)
    (fun C => ⟨hBO, hb0⟩)
    (fun x a' W => a' = { tmps := #[.agg #[.int .i64 c, .int .i64 f, .int .i64 p, .int .i64 q, .slice A ws.length cap], .pointer (some ⟨w.heap.size, 0, none⟩), .int .i64 0, .pointer (some ⟨w.heap.size + 1, 0, none⟩), .int .i64 (x.n : Int),
      .agg #[.int .i64 c, .int .i64 f, .int .i64 p, .int .i64 q, .slice A ws.length cap], .func (.func 60) #[] #[.pointer (some ⟨w.heap.size + 1 + 1, 0, none⟩)], .int .i64 (x.n : Int), .slice (some ⟨x.g, x.off, none⟩) x.bs.length x.bs.length, undef, undef, undef], defers := [] } ∧ x.n ≤ 64)
    (fun x a' _ X Y row hs hg hr => hs)
    ?assign ?body ?done ?stop
  case assign =>
    rintro l C pre x W K hC1 hC2 ⟨hO, hB⟩ hmm hK
    simp only [encP] at hK ⊢
    gi_wp2
    exact hK _ _ (KeepsFrom.refl _ _) (kpP_r _ _ _ _) ⟨hO, hB⟩ hmm ⟨rfl, hmm.2.2⟩
  case body =>
    rintro l C pre x a' W hl1 hl2 hC1 hC2 ⟨hO, hB⟩ hmm ⟨rfl, hx64⟩ hlt
    have HO := Lib.hid hO
    have HB := Lib.hid hB
    have o0 := hO.cell 0
    have olt := hO.lt
    have ofr := hO.frozen 0
    simp only [List.getElem?_toArray, List.getElem?_cons_zero] at o0
    clear hO hB hmm
    gi_wp2
    have hb := HB.out
    have hset := HO.out.set_ 0 (.int .i64 ((x.n : Int) + 1))
    refine ⟨⟨by simp [World.setCell], fun k o hk h0 ho => (Below.heap_setCell W _ _ k (by simp; omega)).trans h0⟩, kpP_set W _ _ (by omega) (by omega) (by omega), ?_, hb.setCell (by simp) _⟩
    rw [lastN_snoc]
    simpa using hset
  case done =>
    rintro D C ys W hD hys ⟨hO, hB⟩ hK
    have HO := Lib.hid hO
    have HB := Lib.hid hB
    have o0 := hO.cell 0
    have olt := hO.lt
    simp only [List.getElem?_toArray, List.getElem?_cons_zero] at o0
    clear hO hB
    gi_wp2
    refine ⟨by simp, .inl ⟨_, _, rfl, run_takeDeferred hK, ?_⟩⟩
    exact ⟨_, results_tmp rfl _ _ _, by rw [← lastN_all hys]; rfl, HB.out.trans (belowK_b (w := w) (Nat.le_refl _) W D _ _ (by omega) hK rfl rfl)⟩
  case stop =>
    rintro D C cc pre W _ _ h _
    exact h.elim
end Go.Proofs.YtpikgebfeleajaaGreatDoor
