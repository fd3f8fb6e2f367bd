/-
  Clone of spaces. Condition: the space and the frames lie in blocks of their own; each page's frame is used; entries may be.
-/
import Derived.Test.YtlecfdchmcghlaaRowMem
import Derived.Test.YtlecfdchmcghlaaSpC
namespace Go.Proofs.Ytlecfdchmcghlaa
open Go.RowKit Go.Shelf
set_option linter.unusedVariables false
set_option linter.unusedSimpArgs false
attribute [local go_sem] Oper.semAt_some

/-- A child's entry. -/
def cowE (x : E) : E := ⟨x.f, x.w, x.s, x.c || (x.w && !x.s), x.d⟩
theorem cowE_ok {x : E} (h : x.ok = true) : (cowE x).ok = true := by
  obtain ⟨f, a1, a2, a3, a4⟩ := x
  unfold E.ok cowE at *
  cases a1 <;> cases a2 <;> cases a3 <;> simp_all
def clG (F : Fs) (m : M) (l : List (Nat × E)) : Nat → Fs × M × M
  | 0 => (F, m, m0)
  | k + 1 => match l[k]? with
    | some y => (shareF (clG F m l k).1 y.2.f, upd (clG F m l k).2.1 y.1 (some (cowE y.2)), upd (clG F m l k).2.2 y.1 (some (cowE y.2)))
    | none => clG F m l k
theorem clG_succ {F : Fs} {m : M} {l : List (Nat × E)} {k : Nat} {y : Nat × E} (h : l[k]? = some y) :
    clG F m l (k + 1) = (shareF (clG F m l k).1 y.2.f, upd (clG F m l k).2.1 y.1 (some (cowE y.2)), upd (clG F m l k).2.2 y.1 (some (cowE y.2))) := by
  rw [clG, h]
theorem shareF_le (F : Fs) (f : Int) (i : Nat) : (shareF F f).r i ≤ F.r i + 1 := by
  unfold shareF
  split
  · show (if i = f.toNat then F.r f.toNat + 1 else F.r i) ≤ _
    split
    · next e => rw [e]; omega
    · omega
  · omega
theorem clG_le (F : Fs) (m : M) (l : List (Nat × E)) (i : Nat) : ∀ k, (clG F m l k).1.r i ≤ F.r i + k
  | 0 => Nat.le_refl _
  | k + 1 => by
    have ih := clG_le F m l i k
    rw [clG]
    split
    · have := shareF_le (clG F m l k).1 (by assumption : Nat × E).2.f i
      show (shareF _ _).r i ≤ _
      omega
    · omega
theorem clG_some (F : Fs) (m : M) (l : List (Nat × E)) (p : Nat) (hp : (m p).isSome = true) : ∀ k, ((clG F m l k).2.1 p).isSome = true
  | 0 => hp
  | k + 1 => by
    have ih := clG_some F m l p hp k
    rw [clG]
    split
    · next y hy =>
      show (upd _ y.1 _ p).isSome = true
      unfold upd
      split
      · rfl
      · exact ih
    · exact ih
theorem mem_listN6 (m : M) : ∀ k p (x : Nat × E), x ∈ listN m p k → p ≤ x.1 ∧ x.1 < p + k ∧ m x.1 = some x.2
  | 0, p, x, h => by simp [listN] at h
  | k + 1, p, x, h => by
    rw [listN, List.mem_append] at h
    rcases h with h | h
    · cases hm : m p with
      | none => rw [hm] at h; simp at h
      | some y =>
        rw [hm] at h
        simp only [List.mem_singleton] at h
        subst h
        exact ⟨Nat.le_refl _, by omega, hm⟩
    · obtain ⟨h1, h2, h3⟩ := mem_listN6 m k (p + 1) x h
      exact ⟨by omega, by omega, h3⟩
theorem list_get {m : M} {k : Nat} {y : Nat × E} (h : (list m)[k]? = some y) : y.1 < 64 ∧ m y.1 = some y.2 := by
  have := mem_listN6 m 64 0 y (List.mem_of_getElem? h)
  exact ⟨by omega, this.2.2⟩
/-- What lies while Clone goes on. -/
structure CI (w : World) (fb lb cap sb bt : Nat) (q : Nat → Option Nat) (so bo gr : Nat) (rows : List (List Value)) (s : Fs × M × M) (W : World) : Prop where
  fs : FS W fb lb cap s.1 sb bt q s.2.1
  out : ∃ qo, SpAt W fb so bo qo s.2.2 ∧ ∀ i, Own bo qo i → w.heap.size ≤ i ∧ i ≠ gr
  bu : But (WS lb bt q) w W
  so_ : w.heap.size ≤ so
  gr_ : rows = [] ∨ w.heap.size ≤ gr ∧ gr < W.heap.size
  rows_ : RowsAt W (some ⟨gr, 0, none⟩) 6 rows
section
variable {w : World} {fb lb cap : Nat} {F : Fs} {sb bt : Nat} {q : Nat → Option Nat} {m : M}
theorem CI.below {W W' : World} {so bo gr : Nat} {rows : List (List Value)} {s : Fs × M × M} (h : CI w fb lb cap sb bt q so bo gr rows s W) (hb : Below W.heap.size W W') : CI w fb lb cap sb bt q so bo gr rows s W' := by
  obtain ⟨qo, h1, h2⟩ := h.out
  exact ⟨h.fs.below hb, ⟨qo, h1.below hb, h2⟩, h.bu.thenBelow hb h.bu.size, h.so_, h.gr_.imp id (fun e => ⟨e.1, Nat.lt_of_lt_of_le e.2 hb.size⟩), h.rows_.below hb⟩
theorem CI.share {W W' : World} {so bo gr : Nat} {rows : List (List Value)} {s : Fs × M × M} (h : CI w fb lb cap sb bt q so bo gr rows s W) (hlb : lb < w.heap.size) {F' : Fs} (ho : FrOut W W' fb lb cap F') : CI w fb lb cap sb bt q so bo gr rows (F', s.2.1, s.2.2) W' := by
  obtain ⟨qo, h1, h2⟩ := h.out
  have hso := h.so_
  refine ⟨⟨ho.1, ⟨h.fs.s.p.but ho.2 h.fs.d3, h.fs.s.t.but ho.2 (fun k hk e => h.fs.d2 (by have e : k = lb := e; rw [← e]; exact hk)), h.fs.s.ne⟩, h.fs.d1, h.fs.d2, h.fs.d3, h.fs.d4⟩, ⟨qo, ⟨h1.p.but ho.2 (by omega), h1.t.but ho.2 (fun k hk e => by have e : k = lb := e; have := h2 k hk; omega), h1.ne⟩, h2⟩, h.bu.trans ho.2 (fun i hi => .inl (.inl hi)), h.so_, h.gr_.imp id (fun e => ⟨e.1, Nat.lt_of_lt_of_le e.2 ho.2.size⟩), h.rows_.but ho.2 (fun hl b off e => ?_)⟩
  injection e with e
  injection e with e1 e2
  rcases h.gr_ with h0 | h0
  · rw [h0] at hl; cases hl
  · omega
theorem CI.set {W W' : World} {so bo gr : Nat} {rows : List (List Value)} {s : Fs × M × M} (h : CI w fb lb cap sb bt q so bo gr rows s W) (h1' : fb < w.heap.size) (hlb : lb < w.heap.size) (hsb : sb < w.heap.size) (how : ∀ k, Own bt q k → k < w.heap.size) {m' : M} (ht : Tab W' bt q m') (hb : But (Own bt q) W W') : CI w fb lb cap sb bt q so bo gr rows (s.1, m', s.2.2) W' := by
  obtain ⟨qo, h1, h2⟩ := h.out
  have hso := h.so_
  refine ⟨⟨h.fs.f.but hb h.fs.d1 h.fs.d2, ⟨h.fs.s.p.but hb h.fs.s.ne, ht, h.fs.s.ne⟩, h.fs.d1, h.fs.d2, h.fs.d3, h.fs.d4⟩, ⟨qo, ⟨h1.p.but hb (fun e => by have := how _ e; omega), h1.t.but hb (fun k hk e => by have := how _ e; have := h2 k hk; omega), h1.ne⟩, h2⟩, h.bu.trans hb (fun i hi => .inl (.inr hi)), h.so_, h.gr_.imp id (fun e => ⟨e.1, Nat.lt_of_lt_of_le e.2 hb.size⟩), h.rows_.but hb (fun hl b off e => ?_)⟩
  injection e with e
  injection e with e1 e2
  rcases h.gr_ with h0 | h0
  · rw [h0] at hl; cases hl
  · intro e; have := how _ e; omega
theorem CI.put {W W' : World} {so bo gr : Nat} {rows : List (List Value)} {s : Fs × M × M} (h : CI w fb lb cap sb bt q so bo gr rows s W) (h1' : fb < w.heap.size) (hlb : lb < w.heap.size) (hsb : sb < w.heap.size) (how : ∀ k, Own bt q k → k < w.heap.size) {m' : M} {qo : Nat → Option Nat} (ho1 : SpAt W fb so bo qo s.2.2) (ho2 : ∀ i, Own bo qo i → w.heap.size ≤ i ∧ i ≠ gr) (hgl : rows = [] → gr < W.heap.size) (hm : Mut W bo qo m' W') : CI w fb lb cap sb bt q so bo gr rows (s.1, s.2.1, m') W' := by
  obtain ⟨q2, ht, hb, hq⟩ := hm
  have hso := h.so_
  have hsz := h.bu.size
  have hlt := ho1.p.lt
  have hgr : gr < W.heap.size := h.gr_.elim hgl (fun e => e.2)
  refine ⟨⟨h.fs.f.but hb (fun e => by have := ho2 _ e; omega) (fun e => by have := ho2 _ e; omega), ⟨h.fs.s.p.but hb (fun e => by have := ho2 _ e; omega), h.fs.s.t.but hb (fun k hk e => by have := ho2 _ e; have := how _ hk; omega), h.fs.s.ne⟩, h.fs.d1, h.fs.d2, h.fs.d3, h.fs.d4⟩, ⟨q2, ⟨ho1.p.but hb ho1.ne, ht, fun e => (hq _ e).elim ho1.ne (fun e => by omega)⟩, fun i hi => ?_⟩, h.bu.trans hb (fun i hi => .inr (ho2 i hi).1), h.so_, h.gr_.imp id (fun e => ⟨e.1, Nat.lt_of_lt_of_le e.2 hb.size⟩), h.rows_.but hb (fun hl b off e => ?_)⟩
  · rcases hq i hi with h3 | h3
    · exact ho2 i h3
    · exact ⟨by omega, by omega⟩
  · injection e with e
    injection e with e1 e2
    subst e1
    exact fun e => (ho2 _ e).2 rfl
set_option maxRecDepth 100000 in
set_option maxHeartbeats 4000000 in
theorem spClone_any (h : FS w fb lb cap F sb bt q m) (hok : ∀ p x, p < 64 → m p = some x → x.ok = true) (htop : ∀ i, F.r i + 64 < 1000000) :
    Calls Try.prog 13 #[.pointer (some ⟨sb, 0, none⟩)] w fun e w' => ∃ so bo gr rows, e = .returned (.pointer (some ⟨so, 0, none⟩)) ∧ CI w fb lb cap sb bt q so bo gr rows (clG F m (list m) (list m).length) w' := by
  have HH := Lib.hid h
  have HOK := Lib.hid hok
  have HTOP := Lib.hid htop
  have HN := Lib.hid (spNone_any h.s)
  have HNEW := Lib.hid (spNew_any (w := w) fb)
  have HL1 := Lib.hid h.f.lt.1
  have HL2 := Lib.hid h.f.lt.2
  have HL3 := Lib.hid h.s.p.lt
  have HL4 := Lib.hid (fun k hk => h.s.t.own_lt (k := k) hk)
  obtain ⟨c0, c1, hlt⟩ := h.s.cells
  have hll := listN_len m 64 0
  clear h hok htop
  go_enter Try.func13, Try.ntmps13
  go_wp2_with (fail)
  refine HN.out.mono ?_
  rintro e _ ⟨rfl, rfl⟩
  go_wp2_with (fail)
  refine HNEW.out.mono ?_
  rintro e W1 ⟨rfl, hsp, hb1⟩
  have HS1 := Lib.hid (HH.out.below hb1)
  have HP1 := Lib.hid hsp
  have HB1 := Lib.hid hb1
  clear hsp hb1 c0 c1 hlt
  obtain ⟨c0, c1, hlt⟩ := HS1.out.s.cells
  go_wp2_with (fail)
  refine (list_any HS1.out.s.t).mono ?_
  rintro e W2 ⟨v, rfl, hrow, _, hb2⟩
  have hrow : W2.ownsRow W1.heap.size 75 6 v ((list m).map mapCells).length ((list m).map mapCells).flatten := by rw [List.length_map]; exact hrow
  obtain ⟨A, cp, rfl, hrows, hA⟩ := rows_own (fun r hr => by rw [List.mem_map] at hr; obtain ⟨y, _, rfl⟩ := hr; rfl) hrow
  have HS2 := Lib.hid (HS1.out.below hb2)
  have HP2 := Lib.hid (HP1.out.below hb2)
  have HB2 := Lib.hid (bl_step HB1.out hb2)
  have hz1 := HB1.out.size
  have hpl := HP1.out.p.lt
  have hCI : ∃ gr, (0 < (list m).length → A = some ⟨gr, 0, none⟩) ∧ (gr < W2.heap.size) ∧ CI w fb lb cap sb bt q (w.heap.size + 1) w.heap.size gr ((list m).map mapCells) (clG F m (list m) 0) W2 := by
    have hsz2 := hb2.size
    have hown : ∀ gr, W1.heap.size ≤ gr → ∀ i, Own w.heap.size q0 i → w.heap.size ≤ i ∧ i ≠ gr := fun gr hgr i hi => by
      rcases hi with rfl | ⟨_, _, e⟩
      · exact ⟨Nat.le_refl _, by omega⟩
      · cases e
    cases hlm : (list m).map mapCells with
    | nil =>
      refine ⟨w.heap.size + 1, fun hl => ?_, by omega, HS2.out, ⟨q0, HP2.out, fun i hi => ?_⟩, But.of_below HB2.out, by omega, .inl rfl, RowsAt.nil _ _ _⟩
      · have := congrArg List.length hlm
        rw [List.length_map, List.length_nil] at this
        omega
      · rcases hi with rfl | ⟨_, _, e⟩
        · exact ⟨Nat.le_refl _, by omega⟩
        · cases e
    | cons r0 rs =>
      have h0 : ((list m).map mapCells)[0]? = some r0 := by rw [hlm]; rfl
      obtain ⟨b, off, hAb, hbl, _⟩ := hrows 0 r0 h0
      have hbb := hA b off hAb
      obtain ⟨g2, c2, hg2⟩ : ∃ g2 c2, A = some ⟨g2, 0, none⟩ := by
        rcases hrow.2 with ⟨h1, _⟩ | ⟨g, c3, cur, h1, _⟩
        · injection h1 with h1 _ _; rw [h1] at hAb; cases hAb
        · injection h1 with h1 _ _; exact ⟨g, c3, h1⟩
      rw [hg2] at hAb
      injection hAb with hAb
      injection hAb with e1 e2
      subst e1
      refine ⟨g2, fun _ => hg2, hbl, HS2.out, ⟨q0, HP2.out, hown g2 hbb⟩, But.of_below HB2.out, by omega, .inr ⟨by omega, hbl⟩, ?_⟩
      rw [← hlm, ← hg2]
      exact hrows
  obtain ⟨gr, hAg, hgl, hci⟩ := hCI
  have HCI := Lib.hid hci
  have HAG := Lib.hid hAg
  have HGL := Lib.hid hgl
  rw [List.length_map]
  clear hrow hrows hA hb2 HS2 HP2 HB2 HP1 HS1 HB1 hz1 hpl hAg hgl hci c0 c1 hlt
  go_wp2_with (fail)
  go_loopw [20] (fun i wx => ∃ k : Nat, i = .int .i64 (k : Int) ∧ k ≤ (list m).length ∧ Hid (W2.heap.size ≤ wx.heap.size) ∧ Hid (CI w fb lb cap sb bt q (w.heap.size + 1) w.heap.size gr ((list m).map mapCells) (clG F m (list m) k) wx)) (fun i _ => (list m).length - (intOf i).toNat)
  case atStart => exact ⟨0, rfl, Nat.zero_le _, Lib.hid (Nat.le_refl _), HCI⟩
  case round =>
    obtain ⟨k, rfl, hk, HZ, HI⟩ := hrel
    by_cases hkn : k < (list m).length
    · have hki : (k : Int) < ((list m).length : Int) := by omega
      obtain ⟨y, hy⟩ : ∃ y, (list m)[k]? = some y := ⟨_, List.getElem?_eq_getElem hkn⟩
      have hsu := clG_succ (F := F) (m := m) hy
      obtain ⟨hp64, hmy⟩ := list_get hy
      have hrw : ((list m).map mapCells)[k]? = some (mapCells y) := by rw [List.getElem?_map, hy]; rfl
      obtain ⟨b, off, hAb, hbl, hcells⟩ := HI.out.rows_ k _ hrw
      injection hAb with hAb
      injection hAb with e1 e2
      subst e1
      subst e2
      have hA2 := HAG.out (by omega)
      subst hA2
      obtain ⟨pg, f, a1, a2, a3, a4⟩ := y
      dsimp only at hsu
      have HSU := Lib.hid hsu
      clear hsu
      simp only [mapCells, Nat.zero_add] at hcells
      have e0 := hcells 0 _ rfl
      have e1 := hcells 1 _ rfl
      have e2 := hcells 2 _ rfl
      have e3 := hcells 3 _ rfl
      have e4 := hcells 4 _ rfl
      have e5 := hcells 5 _ rfl
      simp only [Nat.add_zero] at e0
      have HEO := Lib.hid (HOK.out _ _ hp64 hmy)
      have HK64 := Lib.hid (show k ≤ 64 from by have h1 := hll; have h2 := hkn; unfold list at h2; omega)
      have HP64 := Lib.hid hp64
      have hk64v : (k : Int) ≤ 64 := by have := HK64.out; omega
      have HMY := Lib.hid hmy
      cases a3 with
      | true =>
        go_upto_region 9 with (fail)
        have hm := (Blk.new wr 75 #[.int .i64 (pg : Nat), .int .i64 f, .bool a1, .bool a2, .bool true, .bool a4]).alloc (.cells #[.int .i64 f, .bool a1, .bool a2, .bool true, .bool a4] 71)
        have hx := Blk.new (wr.alloc (.cells #[.int .i64 (pg : Nat), .int .i64 f, .bool a1, .bool a2, .bool true, .bool a4] 75)) 71 #[.int .i64 f, .bool a1, .bool a2, .bool true, .bool a4]
        rw [World.size_alloc] at hx
        have hbb := bl_new (bl_new (Below.refl wr.heap.size wr) (.cells #[.int .i64 (pg : Nat), .int .i64 f, .bool a1, .bool a2, .bool true, .bool a4] 75)) (.cells #[.int .i64 f, .bool a1, .bool a2, .bool true, .bool a4] 71)
        have HXE := Lib.hid (show cowE ⟨f, a1, a2, true, a4⟩ = ⟨f, a1, a2, true, a4⟩ from rfl)
        have HXO := Lib.hid (cowE_ok HEO.out)
        clear e0 e1 e2 e3 e4 e5
        generalize (wr.alloc (.cells #[.int .i64 (pg : Nat), .int .i64 f, .bool a1, .bool a2, .bool true, .bool a4] 75)).alloc (.cells #[.int .i64 f, .bool a1, .bool a2, .bool true, .bool a4] 71) = W4 at *
        have HI4 := Lib.hid (HI.out.below hbb)
        have HZ4 := Lib.hid (Nat.le_trans HZ.out hbb.size)
        have HM4 := Lib.hid hm
        have HX4 := Lib.hid hx
        have c0 := HI4.out.fs.s.p.cell 0
        have x0 := hx.cell 0
        simp only [List.getElem?_toArray, List.getElem?_cons_zero, List.getElem?_cons_succ] at c0 x0
        have cl := HI4.out.fs.s.p.lt
        have xl := hx.lt
        have HWR := Lib.hid (show w.heap.size ≤ wr.heap.size from HI.out.bu.size)
        have HSH := Lib.hid (frShare_any (HI4.out.below (Below.refl _ W4).drew).fs.f f (fun hf0 => by have h1 := clG_le F m (list m) f.toNat k; have h2 := HTOP.out f.toNat; have h3 := HK64.out; omega))
        have HI5 := Lib.hid (HI4.out.below (Below.refl _ W4).drew)
        clear hm hx hbb
        go_still_tail 6, (by kernel_rfl)
        change wpList _ _ _ _ _ W4.drew
        have HM5 := Lib.hid HM4.out.drew
        have HX5 := Lib.hid HX4.out.drew
        have HZ5 := Lib.hid (show W2.heap.size ≤ W4.drew.heap.size from HZ4.out)
        clear c0 x0 cl xl HI4 HM4 HX4 HZ4
        generalize W4.drew = W5 at *
        go_wp2_with (fail)
        refine HSH.out.mono ?_
        rintro e W6 ⟨rfl, ho⟩
        have HI6 := Lib.hid (HI5.out.share HL2.out ho)
        have HM6 := Lib.hid (HM5.out.but ho.2 (by have := HL2.out; have := HWR.out; omega))
        have HX6 := Lib.hid (HX5.out.but ho.2 (by have := HL2.out; have := HWR.out; omega))
        have HZ6 := Lib.hid (Nat.le_trans HZ5.out ho.2.size)
        clear ho HSH HI5 HM5 HX5 HZ5
        have c1 := HI6.out.fs.s.p.cell 1
        have m0' := HM6.out.cell 0
        have x0 := HX6.out.cell 0
        have x1 := HX6.out.cell 1
        have x2 := HX6.out.cell 2
        have x3 := HX6.out.cell 3
        have x4 := HX6.out.cell 4
        simp only [List.getElem?_toArray, List.getElem?_cons_zero, List.getElem?_cons_succ] at c1 m0' x0 x1 x2 x3 x4
        have cl := HI6.out.fs.s.p.lt
        have ml := HM6.out.lt
        have xl := HX6.out.lt
        have hpb : ∃ pb, q (pg / 8) = some pb := by
          cases hq : q (pg / 8) with
          | some pb => exact ⟨pb, rfl⟩
          | none =>
            have h1 := HI6.out.fs.s.t.none_ _ _ (div8 pg HP64.out) hq (mod8 pg)
            rw [dm8] at h1
            have h2 := clG_some F m (list m) pg (by rw [HMY.out]; rfl) k
            have h1 : (clG F m (list m) k).2.1 pg = none := h1
            rw [h1] at h2
            cases h2
        obtain ⟨pb, hpb⟩ := hpb
        have hse := set_keep HI6.out.fs.s.t.drew ⟨f, a1, a2, true, a4⟩ (by rw [← HXE.out]; exact HXO.out) pg HP64.out pb hpb
        simp only [E.val, E.arr] at hse
        have HSE := Lib.hid hse
        clear hse hpb
        go_wp2_with (fail)
        go_still_tail 7, (by kernel_rfl)
        change wpList _ _ _ _ _ W6.drew
        have HI7 := Lib.hid (HI6.out.below (Below.refl _ W6).drew)
        have HM7 := Lib.hid HM6.out.drew
        have HX7 := Lib.hid HX6.out.drew
        have HZ7 := Lib.hid (show W2.heap.size ≤ W6.drew.heap.size from HZ6.out)
        clear c1 m0' x0 x1 x2 x3 x4 cl ml xl HI6 HM6 HX6 HZ6
        generalize W6.drew = W7 at *
        go_wp2_with (fail)
        refine HSE.out.mono ?_
        rintro e W8 ⟨rfl, ht, hb⟩
        have HI8 := Lib.hid (HI7.out.set HL1.out HL2.out HL3.out HL4.out ht hb)
        have HM8 := Lib.hid (HM7.out.but hb (fun e => by have := HL4.out _ e; have := HWR.out; omega))
        have HX8 := Lib.hid (HX7.out.but hb (fun e => by have := HL4.out _ e; have := HWR.out; omega))
        have HZ8 := Lib.hid (Nat.le_trans HZ7.out hb.size)
        clear ht hb HSE HI7 HM7 HX7 HZ7
        obtain ⟨qo, ho1, ho2⟩ := HI8.out.out
        have HO1 := Lib.hid ho1
        have HO2 := Lib.hid ho2
        have c1 := ho1.p.cell 1
        have m0' := HM8.out.cell 0
        have x0 := HX8.out.cell 0
        have x1 := HX8.out.cell 1
        have x2 := HX8.out.cell 2
        have x3 := HX8.out.cell 3
        have x4 := HX8.out.cell 4
        simp only [List.getElem?_toArray, List.getElem?_cons_zero, List.getElem?_cons_succ] at c1 m0' x0 x1 x2 x3 x4
        have cl := ho1.p.lt
        have ml := HM8.out.lt
        have xl := HX8.out.lt
        have hmay : may ((pg : Nat) : Int) ⟨f, a1, a2, true, a4⟩ = true := by
          have h1 := HXO.out
          rw [HXE.out] at h1
          have := HP64.out
          unfold may
          rw [h1]
          simp
          omega
        have hse := set_any (HO1.out.t.drew) ⟨f, a1, a2, true, a4⟩ ((pg : Nat) : Int)
        unfold setM at hse
        rw [hmay, if_pos rfl, if_pos rfl, Int.toNat_natCast] at hse
        simp only [E.val, E.arr] at hse
        have HSE := Lib.hid hse
        clear hse hmay ho1 ho2
        go_wp2_with (fail)
        go_still_tail 7, (by kernel_rfl)
        change wpList _ _ _ _ _ W8.drew
        have HI9 := Lib.hid (HI8.out.below (Below.refl _ W8).drew)
        have HO3 := Lib.hid (HO1.out.below (Below.refl _ W8).drew)
        have HZ9 := Lib.hid (show W2.heap.size ≤ W8.drew.heap.size from HZ8.out)
        clear c1 m0' x0 x1 x2 x3 x4 cl ml xl HI8 HM8 HX8 HZ8 HO1
        generalize W8.drew = W9 at *
        go_wp2_with (fail)
        refine HSE.out.mono ?_
        rintro e W10 ⟨rfl, hmut⟩
        have HI10 := Lib.hid (HI9.out.put HL1.out HL2.out HL3.out HL4.out HO3.out HO2.out (fun _ => Nat.lt_of_lt_of_le HGL.out HZ9.out) hmut)
        have HZ10 := Lib.hid (by obtain ⟨_, _, hb, _⟩ := hmut; exact Nat.le_trans HZ9.out hb.size)
        clear hmut HSE HI9 HO3 HO2 HZ9
        go_wp2
        exact ⟨⟨k + 1, by simp, by omega, HZ10, Lib.hid (by rw [HSU.out, HXE.out]; exact HI10.out)⟩, by simp [intOf]; omega⟩
      | false =>
        cases a1 with
        | false =>
          go_upto_region 9 with (fail)
          have hm := (Blk.new wr 75 #[.int .i64 (pg : Nat), .int .i64 f, .bool false, .bool a2, .bool false, .bool a4]).alloc (.cells #[.int .i64 f, .bool false, .bool a2, .bool false, .bool a4] 71)
          have hx := Blk.new (wr.alloc (.cells #[.int .i64 (pg : Nat), .int .i64 f, .bool false, .bool a2, .bool false, .bool a4] 75)) 71 #[.int .i64 f, .bool false, .bool a2, .bool false, .bool a4]
          rw [World.size_alloc] at hx
          have hbb := bl_new (bl_new (Below.refl wr.heap.size wr) (.cells #[.int .i64 (pg : Nat), .int .i64 f, .bool false, .bool a2, .bool false, .bool a4] 75)) (.cells #[.int .i64 f, .bool false, .bool a2, .bool false, .bool a4] 71)
          have HXE := Lib.hid (show cowE ⟨f, false, a2, false, a4⟩ = ⟨f, false, a2, false, a4⟩ from rfl)
          have HXO := Lib.hid (cowE_ok HEO.out)
          clear e0 e1 e2 e3 e4 e5
          generalize (wr.alloc (.cells #[.int .i64 (pg : Nat), .int .i64 f, .bool false, .bool a2, .bool false, .bool a4] 75)).alloc (.cells #[.int .i64 f, .bool false, .bool a2, .bool false, .bool a4] 71) = W4 at *
          have HI4 := Lib.hid (HI.out.below hbb)
          have HZ4 := Lib.hid (Nat.le_trans HZ.out hbb.size)
          have HM4 := Lib.hid hm
          have HX4 := Lib.hid hx
          have c0 := HI4.out.fs.s.p.cell 0
          have x0 := hx.cell 0
          simp only [List.getElem?_toArray, List.getElem?_cons_zero, List.getElem?_cons_succ] at c0 x0
          have cl := HI4.out.fs.s.p.lt
          have xl := hx.lt
          have HWR := Lib.hid (show w.heap.size ≤ wr.heap.size from HI.out.bu.size)
          have HSH := Lib.hid (frShare_any (HI4.out.below (Below.refl _ W4).drew).fs.f f (fun hf0 => by have h1 := clG_le F m (list m) f.toNat k; have h2 := HTOP.out f.toNat; have h3 := HK64.out; omega))
          have HI5 := Lib.hid (HI4.out.below (Below.refl _ W4).drew)
          clear hm hx hbb
          go_still_tail 6, (by kernel_rfl)
          change wpList _ _ _ _ _ W4.drew
          have HM5 := Lib.hid HM4.out.drew
          have HX5 := Lib.hid HX4.out.drew
          have HZ5 := Lib.hid (show W2.heap.size ≤ W4.drew.heap.size from HZ4.out)
          clear c0 x0 cl xl HI4 HM4 HX4 HZ4
          generalize W4.drew = W5 at *
          go_wp2_with (fail)
          refine HSH.out.mono ?_
          rintro e W6 ⟨rfl, ho⟩
          have HI6 := Lib.hid (HI5.out.share HL2.out ho)
          have HM6 := Lib.hid (HM5.out.but ho.2 (by have := HL2.out; have := HWR.out; omega))
          have HX6 := Lib.hid (HX5.out.but ho.2 (by have := HL2.out; have := HWR.out; omega))
          have HZ6 := Lib.hid (Nat.le_trans HZ5.out ho.2.size)
          clear ho HSH HI5 HM5 HX5 HZ5
          have c1 := HI6.out.fs.s.p.cell 1
          have m0' := HM6.out.cell 0
          have x0 := HX6.out.cell 0
          have x1 := HX6.out.cell 1
          have x2 := HX6.out.cell 2
          have x3 := HX6.out.cell 3
          have x4 := HX6.out.cell 4
          simp only [List.getElem?_toArray, List.getElem?_cons_zero, List.getElem?_cons_succ] at c1 m0' x0 x1 x2 x3 x4
          have cl := HI6.out.fs.s.p.lt
          have ml := HM6.out.lt
          have xl := HX6.out.lt
          have hpb : ∃ pb, q (pg / 8) = some pb := by
            cases hq : q (pg / 8) with
            | some pb => exact ⟨pb, rfl⟩
            | none =>
              have h1 := HI6.out.fs.s.t.none_ _ _ (div8 pg HP64.out) hq (mod8 pg)
              rw [dm8] at h1
              have h2 := clG_some F m (list m) pg (by rw [HMY.out]; rfl) k
              have h1 : (clG F m (list m) k).2.1 pg = none := h1
              rw [h1] at h2
              cases h2
          obtain ⟨pb, hpb⟩ := hpb
          have hse := set_keep HI6.out.fs.s.t.drew ⟨f, false, a2, false, a4⟩ (by rw [← HXE.out]; exact HXO.out) pg HP64.out pb hpb
          simp only [E.val, E.arr] at hse
          have HSE := Lib.hid hse
          clear hse hpb
          go_wp2_with (fail)
          go_still_tail 7, (by kernel_rfl)
          change wpList _ _ _ _ _ W6.drew
          have HI7 := Lib.hid (HI6.out.below (Below.refl _ W6).drew)
          have HM7 := Lib.hid HM6.out.drew
          have HX7 := Lib.hid HX6.out.drew
          have HZ7 := Lib.hid (show W2.heap.size ≤ W6.drew.heap.size from HZ6.out)
          clear c1 m0' x0 x1 x2 x3 x4 cl ml xl HI6 HM6 HX6 HZ6
          generalize W6.drew = W7 at *
          go_wp2_with (fail)
          refine HSE.out.mono ?_
          rintro e W8 ⟨rfl, ht, hb⟩
          have HI8 := Lib.hid (HI7.out.set HL1.out HL2.out HL3.out HL4.out ht hb)
          have HM8 := Lib.hid (HM7.out.but hb (fun e => by have := HL4.out _ e; have := HWR.out; omega))
          have HX8 := Lib.hid (HX7.out.but hb (fun e => by have := HL4.out _ e; have := HWR.out; omega))
          have HZ8 := Lib.hid (Nat.le_trans HZ7.out hb.size)
          clear ht hb HSE HI7 HM7 HX7 HZ7
          obtain ⟨qo, ho1, ho2⟩ := HI8.out.out
          have HO1 := Lib.hid ho1
          have HO2 := Lib.hid ho2
          have c1 := ho1.p.cell 1
          have m0' := HM8.out.cell 0
          have x0 := HX8.out.cell 0
          have x1 := HX8.out.cell 1
          have x2 := HX8.out.cell 2
          have x3 := HX8.out.cell 3
          have x4 := HX8.out.cell 4
          simp only [List.getElem?_toArray, List.getElem?_cons_zero, List.getElem?_cons_succ] at c1 m0' x0 x1 x2 x3 x4
          have cl := ho1.p.lt
          have ml := HM8.out.lt
          have xl := HX8.out.lt
          have hmay : may ((pg : Nat) : Int) ⟨f, false, a2, false, a4⟩ = true := by
            have h1 := HXO.out
            rw [HXE.out] at h1
            have := HP64.out
            unfold may
            rw [h1]
            simp
            omega
          have hse := set_any (HO1.out.t.drew) ⟨f, false, a2, false, a4⟩ ((pg : Nat) : Int)
          unfold setM at hse
          rw [hmay, if_pos rfl, if_pos rfl, Int.toNat_natCast] at hse
          simp only [E.val, E.arr] at hse
          have HSE := Lib.hid hse
          clear hse hmay ho1 ho2
          go_wp2_with (fail)
          go_still_tail 7, (by kernel_rfl)
          change wpList _ _ _ _ _ W8.drew
          have HI9 := Lib.hid (HI8.out.below (Below.refl _ W8).drew)
          have HO3 := Lib.hid (HO1.out.below (Below.refl _ W8).drew)
          have HZ9 := Lib.hid (show W2.heap.size ≤ W8.drew.heap.size from HZ8.out)
          clear c1 m0' x0 x1 x2 x3 x4 cl ml xl HI8 HM8 HX8 HZ8 HO1
          generalize W8.drew = W9 at *
          go_wp2_with (fail)
          refine HSE.out.mono ?_
          rintro e W10 ⟨rfl, hmut⟩
          have HI10 := Lib.hid (HI9.out.put HL1.out HL2.out HL3.out HL4.out HO3.out HO2.out (fun _ => Nat.lt_of_lt_of_le HGL.out HZ9.out) hmut)
          have HZ10 := Lib.hid (by obtain ⟨_, _, hb, _⟩ := hmut; exact Nat.le_trans HZ9.out hb.size)
          clear hmut HSE HI9 HO3 HO2 HZ9
          go_wp2
          exact ⟨⟨k + 1, by simp, by omega, HZ10, Lib.hid (by rw [HSU.out, HXE.out]; exact HI10.out)⟩, by simp [intOf]; omega⟩
        | true =>
          cases a2 with
          | true =>
            go_upto_region 9 with (fail)
            have hm := (Blk.new wr 75 #[.int .i64 (pg : Nat), .int .i64 f, .bool true, .bool true, .bool false, .bool a4]).alloc (.cells #[.int .i64 f, .bool true, .bool true, .bool false, .bool a4] 71)
            have hx := Blk.new (wr.alloc (.cells #[.int .i64 (pg : Nat), .int .i64 f, .bool true, .bool true, .bool false, .bool a4] 75)) 71 #[.int .i64 f, .bool true, .bool true, .bool false, .bool a4]
            rw [World.size_alloc] at hx
            have hbb := bl_new (bl_new (Below.refl wr.heap.size wr) (.cells #[.int .i64 (pg : Nat), .int .i64 f, .bool true, .bool true, .bool false, .bool a4] 75)) (.cells #[.int .i64 f, .bool true, .bool true, .bool false, .bool a4] 71)
            have HXE := Lib.hid (show cowE ⟨f, true, true, false, a4⟩ = ⟨f, true, true, false, a4⟩ from rfl)
            have HXO := Lib.hid (cowE_ok HEO.out)
            clear e0 e1 e2 e3 e4 e5
            generalize (wr.alloc (.cells #[.int .i64 (pg : Nat), .int .i64 f, .bool true, .bool true, .bool false, .bool a4] 75)).alloc (.cells #[.int .i64 f, .bool true, .bool true, .bool false, .bool a4] 71) = W4 at *
            have HI4 := Lib.hid (HI.out.below hbb)
            have HZ4 := Lib.hid (Nat.le_trans HZ.out hbb.size)
            have HM4 := Lib.hid hm
            have HX4 := Lib.hid hx
            have c0 := HI4.out.fs.s.p.cell 0
            have x0 := hx.cell 0
            simp only [List.getElem?_toArray, List.getElem?_cons_zero, List.getElem?_cons_succ] at c0 x0
            have cl := HI4.out.fs.s.p.lt
            have xl := hx.lt
            have HWR := Lib.hid (show w.heap.size ≤ wr.heap.size from HI.out.bu.size)
            have HSH := Lib.hid (frShare_any (HI4.out.below (Below.refl _ W4).drew).fs.f f (fun hf0 => by have h1 := clG_le F m (list m) f.toNat k; have h2 := HTOP.out f.toNat; have h3 := HK64.out; omega))
            have HI5 := Lib.hid (HI4.out.below (Below.refl _ W4).drew)
            clear hm hx hbb
            go_still_tail 6, (by kernel_rfl)
            change wpList _ _ _ _ _ W4.drew
            have HM5 := Lib.hid HM4.out.drew
            have HX5 := Lib.hid HX4.out.drew
            have HZ5 := Lib.hid (show W2.heap.size ≤ W4.drew.heap.size from HZ4.out)
            clear c0 x0 cl xl HI4 HM4 HX4 HZ4
            generalize W4.drew = W5 at *
            go_wp2_with (fail)
            refine HSH.out.mono ?_
            rintro e W6 ⟨rfl, ho⟩
            have HI6 := Lib.hid (HI5.out.share HL2.out ho)
            have HM6 := Lib.hid (HM5.out.but ho.2 (by have := HL2.out; have := HWR.out; omega))
            have HX6 := Lib.hid (HX5.out.but ho.2 (by have := HL2.out; have := HWR.out; omega))
            have HZ6 := Lib.hid (Nat.le_trans HZ5.out ho.2.size)
            clear ho HSH HI5 HM5 HX5 HZ5
            have c1 := HI6.out.fs.s.p.cell 1
            have m0' := HM6.out.cell 0
            have x0 := HX6.out.cell 0
            have x1 := HX6.out.cell 1
            have x2 := HX6.out.cell 2
            have x3 := HX6.out.cell 3
            have x4 := HX6.out.cell 4
            simp only [List.getElem?_toArray, List.getElem?_cons_zero, List.getElem?_cons_succ] at c1 m0' x0 x1 x2 x3 x4
            have cl := HI6.out.fs.s.p.lt
            have ml := HM6.out.lt
            have xl := HX6.out.lt
            have hpb : ∃ pb, q (pg / 8) = some pb := by
              cases hq : q (pg / 8) with
              | some pb => exact ⟨pb, rfl⟩
              | none =>
                have h1 := HI6.out.fs.s.t.none_ _ _ (div8 pg HP64.out) hq (mod8 pg)
                rw [dm8] at h1
                have h2 := clG_some F m (list m) pg (by rw [HMY.out]; rfl) k
                have h1 : (clG F m (list m) k).2.1 pg = none := h1
                rw [h1] at h2
                cases h2
            obtain ⟨pb, hpb⟩ := hpb
            have hse := set_keep HI6.out.fs.s.t.drew ⟨f, true, true, false, a4⟩ (by rw [← HXE.out]; exact HXO.out) pg HP64.out pb hpb
            simp only [E.val, E.arr] at hse
            have HSE := Lib.hid hse
            clear hse hpb
            go_wp2_with (fail)
            go_still_tail 7, (by kernel_rfl)
            change wpList _ _ _ _ _ W6.drew
            have HI7 := Lib.hid (HI6.out.below (Below.refl _ W6).drew)
            have HM7 := Lib.hid HM6.out.drew
            have HX7 := Lib.hid HX6.out.drew
            have HZ7 := Lib.hid (show W2.heap.size ≤ W6.drew.heap.size from HZ6.out)
            clear c1 m0' x0 x1 x2 x3 x4 cl ml xl HI6 HM6 HX6 HZ6
            generalize W6.drew = W7 at *
            go_wp2_with (fail)
            refine HSE.out.mono ?_
            rintro e W8 ⟨rfl, ht, hb⟩
            have HI8 := Lib.hid (HI7.out.set HL1.out HL2.out HL3.out HL4.out ht hb)
            have HM8 := Lib.hid (HM7.out.but hb (fun e => by have := HL4.out _ e; have := HWR.out; omega))
            have HX8 := Lib.hid (HX7.out.but hb (fun e => by have := HL4.out _ e; have := HWR.out; omega))
            have HZ8 := Lib.hid (Nat.le_trans HZ7.out hb.size)
            clear ht hb HSE HI7 HM7 HX7 HZ7
            obtain ⟨qo, ho1, ho2⟩ := HI8.out.out
            have HO1 := Lib.hid ho1
            have HO2 := Lib.hid ho2
            have c1 := ho1.p.cell 1
            have m0' := HM8.out.cell 0
            have x0 := HX8.out.cell 0
            have x1 := HX8.out.cell 1
            have x2 := HX8.out.cell 2
            have x3 := HX8.out.cell 3
            have x4 := HX8.out.cell 4
            simp only [List.getElem?_toArray, List.getElem?_cons_zero, List.getElem?_cons_succ] at c1 m0' x0 x1 x2 x3 x4
            have cl := ho1.p.lt
            have ml := HM8.out.lt
            have xl := HX8.out.lt
            have hmay : may ((pg : Nat) : Int) ⟨f, true, true, false, a4⟩ = true := by
              have h1 := HXO.out
              rw [HXE.out] at h1
              have := HP64.out
              unfold may
              rw [h1]
              simp
              omega
            have hse := set_any (HO1.out.t.drew) ⟨f, true, true, false, a4⟩ ((pg : Nat) : Int)
            unfold setM at hse
            rw [hmay, if_pos rfl, if_pos rfl, Int.toNat_natCast] at hse
            simp only [E.val, E.arr] at hse
            have HSE := Lib.hid hse
            clear hse hmay ho1 ho2
            go_wp2_with (fail)
            go_still_tail 7, (by kernel_rfl)
            change wpList _ _ _ _ _ W8.drew
            have HI9 := Lib.hid (HI8.out.below (Below.refl _ W8).drew)
            have HO3 := Lib.hid (HO1.out.below (Below.refl _ W8).drew)
            have HZ9 := Lib.hid (show W2.heap.size ≤ W8.drew.heap.size from HZ8.out)
            clear c1 m0' x0 x1 x2 x3 x4 cl ml xl HI8 HM8 HX8 HZ8 HO1
            generalize W8.drew = W9 at *
            go_wp2_with (fail)
            refine HSE.out.mono ?_
            rintro e W10 ⟨rfl, hmut⟩
            have HI10 := Lib.hid (HI9.out.put HL1.out HL2.out HL3.out HL4.out HO3.out HO2.out (fun _ => Nat.lt_of_lt_of_le HGL.out HZ9.out) hmut)
            have HZ10 := Lib.hid (by obtain ⟨_, _, hb, _⟩ := hmut; exact Nat.le_trans HZ9.out hb.size)
            clear hmut HSE HI9 HO3 HO2 HZ9
            go_wp2
            exact ⟨⟨k + 1, by simp, by omega, HZ10, Lib.hid (by rw [HSU.out, HXE.out]; exact HI10.out)⟩, by simp [intOf]; omega⟩
          | false =>
            go_upto_region 9 with (fail)
            have hm := (Blk.new wr 75 #[.int .i64 (pg : Nat), .int .i64 f, .bool true, .bool false, .bool false, .bool a4]).alloc (.cells #[.int .i64 f, .bool true, .bool false, .bool true, .bool a4] 71)
            have hx := Blk.new (wr.alloc (.cells #[.int .i64 (pg : Nat), .int .i64 f, .bool true, .bool false, .bool false, .bool a4] 75)) 71 #[.int .i64 f, .bool true, .bool false, .bool true, .bool a4]
            rw [World.size_alloc] at hx
            have hbb := bl_new (bl_new (Below.refl wr.heap.size wr) (.cells #[.int .i64 (pg : Nat), .int .i64 f, .bool true, .bool false, .bool false, .bool a4] 75)) (.cells #[.int .i64 f, .bool true, .bool false, .bool true, .bool a4] 71)
            have HXE := Lib.hid (show cowE ⟨f, true, false, false, a4⟩ = ⟨f, true, false, true, a4⟩ from rfl)
            have HXO := Lib.hid (cowE_ok HEO.out)
            clear e0 e1 e2 e3 e4 e5
            generalize (wr.alloc (.cells #[.int .i64 (pg : Nat), .int .i64 f, .bool true, .bool false, .bool false, .bool a4] 75)).alloc (.cells #[.int .i64 f, .bool true, .bool false, .bool true, .bool a4] 71) = W4 at *
            have HI4 := Lib.hid (HI.out.below hbb)
            have HZ4 := Lib.hid (Nat.le_trans HZ.out hbb.size)
            have HM4 := Lib.hid hm
            have HX4 := Lib.hid hx
            have c0 := HI4.out.fs.s.p.cell 0
            have x0 := hx.cell 0
            simp only [List.getElem?_toArray, List.getElem?_cons_zero, List.getElem?_cons_succ] at c0 x0
            have cl := HI4.out.fs.s.p.lt
            have xl := hx.lt
            have HWR := Lib.hid (show w.heap.size ≤ wr.heap.size from HI.out.bu.size)
            have HSH := Lib.hid (frShare_any (HI4.out.below (Below.refl _ W4).drew).fs.f f (fun hf0 => by have h1 := clG_le F m (list m) f.toNat k; have h2 := HTOP.out f.toNat; have h3 := HK64.out; omega))
            have HI5 := Lib.hid (HI4.out.below (Below.refl _ W4).drew)
            clear hm hx hbb
            go_still_tail 6, (by kernel_rfl)
            change wpList _ _ _ _ _ W4.drew
            have HM5 := Lib.hid HM4.out.drew
            have HX5 := Lib.hid HX4.out.drew
            have HZ5 := Lib.hid (show W2.heap.size ≤ W4.drew.heap.size from HZ4.out)
            clear c0 x0 cl xl HI4 HM4 HX4 HZ4
            generalize W4.drew = W5 at *
            go_wp2_with (fail)
            refine HSH.out.mono ?_
            rintro e W6 ⟨rfl, ho⟩
            have HI6 := Lib.hid (HI5.out.share HL2.out ho)
            have HM6 := Lib.hid (HM5.out.but ho.2 (by have := HL2.out; have := HWR.out; omega))
            have HX6 := Lib.hid (HX5.out.but ho.2 (by have := HL2.out; have := HWR.out; omega))
            have HZ6 := Lib.hid (Nat.le_trans HZ5.out ho.2.size)
            clear ho HSH HI5 HM5 HX5 HZ5
            have c1 := HI6.out.fs.s.p.cell 1
            have m0' := HM6.out.cell 0
            have x0 := HX6.out.cell 0
            have x1 := HX6.out.cell 1
            have x2 := HX6.out.cell 2
            have x3 := HX6.out.cell 3
            have x4 := HX6.out.cell 4
            simp only [List.getElem?_toArray, List.getElem?_cons_zero, List.getElem?_cons_succ] at c1 m0' x0 x1 x2 x3 x4
            have cl := HI6.out.fs.s.p.lt
            have ml := HM6.out.lt
            have xl := HX6.out.lt
            have hpb : ∃ pb, q (pg / 8) = some pb := by
              cases hq : q (pg / 8) with
              | some pb => exact ⟨pb, rfl⟩
              | none =>
                have h1 := HI6.out.fs.s.t.none_ _ _ (div8 pg HP64.out) hq (mod8 pg)
                rw [dm8] at h1
                have h2 := clG_some F m (list m) pg (by rw [HMY.out]; rfl) k
                have h1 : (clG F m (list m) k).2.1 pg = none := h1
                rw [h1] at h2
                cases h2
            obtain ⟨pb, hpb⟩ := hpb
            have hse := set_keep HI6.out.fs.s.t.drew ⟨f, true, false, true, a4⟩ (by rw [← HXE.out]; exact HXO.out) pg HP64.out pb hpb
            simp only [E.val, E.arr] at hse
            have HSE := Lib.hid hse
            clear hse hpb
            go_wp2_with (fail)
            go_still_tail 7, (by kernel_rfl)
            change wpList _ _ _ _ _ W6.drew
            have HI7 := Lib.hid (HI6.out.below (Below.refl _ W6).drew)
            have HM7 := Lib.hid HM6.out.drew
            have HX7 := Lib.hid HX6.out.drew
            have HZ7 := Lib.hid (show W2.heap.size ≤ W6.drew.heap.size from HZ6.out)
            clear c1 m0' x0 x1 x2 x3 x4 cl ml xl HI6 HM6 HX6 HZ6
            generalize W6.drew = W7 at *
            go_wp2_with (fail)
            refine HSE.out.mono ?_
            rintro e W8 ⟨rfl, ht, hb⟩
            have HI8 := Lib.hid (HI7.out.set HL1.out HL2.out HL3.out HL4.out ht hb)
            have HM8 := Lib.hid (HM7.out.but hb (fun e => by have := HL4.out _ e; have := HWR.out; omega))
            have HX8 := Lib.hid (HX7.out.but hb (fun e => by have := HL4.out _ e; have := HWR.out; omega))
            have HZ8 := Lib.hid (Nat.le_trans HZ7.out hb.size)
            clear ht hb HSE HI7 HM7 HX7 HZ7
            obtain ⟨qo, ho1, ho2⟩ := HI8.out.out
            have HO1 := Lib.hid ho1
            have HO2 := Lib.hid ho2
            have c1 := ho1.p.cell 1
            have m0' := HM8.out.cell 0
            have x0 := HX8.out.cell 0
            have x1 := HX8.out.cell 1
            have x2 := HX8.out.cell 2
            have x3 := HX8.out.cell 3
            have x4 := HX8.out.cell 4
            simp only [List.getElem?_toArray, List.getElem?_cons_zero, List.getElem?_cons_succ] at c1 m0' x0 x1 x2 x3 x4
            have cl := ho1.p.lt
            have ml := HM8.out.lt
            have xl := HX8.out.lt
            have hmay : may ((pg : Nat) : Int) ⟨f, true, false, true, a4⟩ = true := by
              have h1 := HXO.out
              rw [HXE.out] at h1
              have := HP64.out
              unfold may
              rw [h1]
              simp
              omega
            have hse := set_any (HO1.out.t.drew) ⟨f, true, false, true, a4⟩ ((pg : Nat) : Int)
            unfold setM at hse
            rw [hmay, if_pos rfl, if_pos rfl, Int.toNat_natCast] at hse
            simp only [E.val, E.arr] at hse
            have HSE := Lib.hid hse
            clear hse hmay ho1 ho2
            go_wp2_with (fail)
            go_still_tail 7, (by kernel_rfl)
            change wpList _ _ _ _ _ W8.drew
            have HI9 := Lib.hid (HI8.out.below (Below.refl _ W8).drew)
            have HO3 := Lib.hid (HO1.out.below (Below.refl _ W8).drew)
            have HZ9 := Lib.hid (show W2.heap.size ≤ W8.drew.heap.size from HZ8.out)
            clear c1 m0' x0 x1 x2 x3 x4 cl ml xl HI8 HM8 HX8 HZ8 HO1
            generalize W8.drew = W9 at *
            go_wp2_with (fail)
            refine HSE.out.mono ?_
            rintro e W10 ⟨rfl, hmut⟩
            have HI10 := Lib.hid (HI9.out.put HL1.out HL2.out HL3.out HL4.out HO3.out HO2.out (fun _ => Nat.lt_of_lt_of_le HGL.out HZ9.out) hmut)
            have HZ10 := Lib.hid (by obtain ⟨_, _, hb, _⟩ := hmut; exact Nat.le_trans HZ9.out hb.size)
            clear hmut HSE HI9 HO3 HO2 HZ9
            go_wp2
            exact ⟨⟨k + 1, by simp, by omega, HZ10, Lib.hid (by rw [HSU.out, HXE.out]; exact HI10.out)⟩, by simp [intOf]; omega⟩
    · have hki : ¬ (k : Int) < ((list m).length : Int) := by omega
      have hkk : k = (list m).length := by omega
      have HI2 := Lib.hid (by rw [hkk] at HI; exact HI.out)
      clear hkk
      go_wp2
      go_ret
      first | exact ⟨_, _, _, _, rfl, HI2.out⟩ | exact ⟨_, rfl, _, _, _, HI2.out⟩ | exact ⟨_, _, rfl, _, _, HI2.out⟩ | exact ⟨_, _, _, rfl, _, HI2.out⟩
end
end Go.Proofs.Ytlecfdchmcghlaa
