/-
  Walks over package pages: Clean.
-/
import Derived.Test.YtgdimjcpdndklaaPages8
namespace Go.Proofs.Ytgdimjcpdndklaa
open Go.RowKit Go.Shelf
set_option linter.unusedVariables false
set_option linter.unusedSimpArgs false

def cleanE (x : E) : E := { x with d := false }
/-- One page is no longer dirty. -/
def und (m : M) (p : Nat) : M := fun n => if n = p then (m n).map cleanE else m n
def undL (m : M) : List Nat → M
  | [] => m
  | p :: ps => undL (und m p) ps
theorem undL_snoc (m : M) (ps : List Nat) (p : Nat) : undL m (ps ++ [p]) = und (undL m ps) p := by
  induction ps generalizing m with
  | nil => rfl
  | cons x xs ih => exact ih _
/-- No page is dirty. -/
def cl (m : M) : M := fun n => (m n).map cleanE

theorem set1 (A B : List Value) (v0 v1 v2 v3 v4 v5 u4 : Value) (n : Nat) (hn : n = A.length) :
    (A ++ [v0, v1, v2, v3, v4, v5] ++ B).toArray.setIfInBounds (n + 4) u4 = (A ++ [v0, v1, v2, v3, u4, v5] ++ B).toArray := by
  subst hn
  simp [List.setIfInBounds_toArray, List.set_append]
theorem und_upd (m : M) (p : Nat) {x : E} (h : m p = some x) : und m p = upd m p (some (cleanE x)) := by
  funext n; unfold und upd; split <;> simp_all
theorem Tab.clean1 {w : World} {bt : Nat} {q : Nat → Option Nat} {m : M} (h : Tab w bt q m) {p : Nat} (hp : p < 64) {pb : Nat} (hq : q (p / 8) = some pb) {x : E} (hx : m p = some x) :
    Tab (w.setCell ⟨pb, p % 8 * 6 + 4, none⟩ (.bool false)) bt q (und m p) := by
  rw [und_upd m p hx]
  have hpt := h.part _ _ (div8 p hp) hq
  refine ⟨h.top.far (h.top.ne_ hpt (by decide)) _, fun i b hi hb => ?_, fun i b hi hb => ?_, fun i j hi hn hj => ?_, h.inj⟩
  · by_cases hip : i = p / 8
    · subst hip
      rw [hq] at hb
      cases hb
      have h1 := hpt.set_ (p % 8 * 6 + 4) (.bool false)
      obtain ⟨A, B, hA, hm, hu⟩ := partList_parts m (p / 8) (mod8 p)
      rw [dm8] at hm hu
      unfold partArr at h1 ⊢
      rw [hm, hx] at h1
      simp only [slotList] at h1
      rw [set1 A B _ _ _ _ _ _ _ _ hA.symm] at h1
      rw [hu]
      exact h1
    · have hne : b ≠ pb := by rintro rfl; exact hip (h.inj _ _ _ hi (div8 p hp) hb hq)
      have := (h.part _ _ hi hb).far (p := ⟨pb, p % 8 * 6 + 4, none⟩) hne (.bool false)
      unfold partArr at this ⊢
      rw [partList_far m i _ (fun e => hip e.symm)]
      exact this
  · by_cases hip : i = p / 8
    · subst hip
      exact ⟨p % 8, mod8 p, by rw [dm8, upd_same]; rfl⟩
    · obtain ⟨j, hj, hs⟩ := h.some_ i b hi hb
      exact ⟨j, hj, by rw [upd_other m _ (by omega)]; exact hs⟩
  · have hip : i ≠ p / 8 := by rintro rfl; rw [hq] at hn; cases hn
    rw [upd_other m _ (by omega)]
    exact h.none_ i j hi hn hj

/-- The pages of entries that are f. -/
def filtN (f : E → Bool) (l : List (Nat × E)) : List Nat := (l.filter fun x => f x.2).map fun x => x.1
theorem filt_filtN (f : E → Bool) (l : List (Nat × E)) : filt f l = (filtN f l).map (fun n : Nat => (n : Int)) := by simp [filt, filtN]
theorem mem_listN (m : M) : ∀ k p (x : Nat × E), x ∈ listN m p k → p ≤ x.1 ∧ x.1 < p + k ∧ m x.1 = some x.2
  | 0, p, x, h => by simp [listN] at h
  | k + 1, p, x, h => by
    rw [listN, List.mem_append] at h
    rcases h with h | h
    · cases hm : m p with
      | none => rw [hm] at h; simp at h
      | some y => rw [hm] at h; simp at h; subst h; exact ⟨Nat.le_refl _, by omega, hm⟩
    · have := mem_listN m k (p + 1) x h
      exact ⟨by omega, by omega, this.2.2⟩
theorem mem_list {m : M} {x : Nat × E} (h : x ∈ list m) : x.1 < 64 ∧ m x.1 = some x.2 := by
  have := mem_listN m 64 0 x h
  exact ⟨by omega, this.2.2⟩
theorem list_mem_of (m : M) : ∀ k p n x, p ≤ n → n < p + k → m n = some x → (n, x) ∈ listN m p k
  | 0, p, n, x, h1, h2, _ => by omega
  | k + 1, p, n, x, h1, h2, h3 => by
    rw [listN, List.mem_append]
    by_cases hn : n = p
    · subst hn; left; rw [h3]; simp
    · right; exact list_mem_of m k (p + 1) n x (by omega) (by omega) h3
theorem mem_filtN {f : E → Bool} {m : M} {p : Nat} (h : p ∈ filtN f (list m)) : p < 64 ∧ ∃ x, m p = some x ∧ f x = true := by
  unfold filtN at h
  obtain ⟨x, hx, rfl⟩ := List.mem_map.1 h
  rw [List.mem_filter] at hx
  have := mem_list hx.1
  exact ⟨this.1, x.2, this.2, hx.2⟩
theorem undL_some (m : M) (ps : List Nat) (p : Nat) : ((undL m ps p).isSome = (m p).isSome) ∧ (p ∉ ps → undL m ps p = m p) ∧ (∀ x, p ∈ ps → m p = some x → undL m ps p = some (cleanE x)) := by
  induction ps generalizing m with
  | nil => exact ⟨rfl, fun _ => rfl, fun x h => by simp at h⟩
  | cons a rest ih =>
    obtain ⟨h1, h2, h3⟩ := ih (und m a)
    simp only [undL]
    refine ⟨?_, fun hn => ?_, fun x hp hx => ?_⟩
    · rw [h1]; unfold und; split <;> simp
    · rw [h2 (fun h => hn (List.mem_cons_of_mem _ h))]; unfold und; rw [if_neg (fun h => hn (by rw [h]; exact List.mem_cons_self))]
    · by_cases hpa : p = a
      · subst hpa
        have hu : und m p p = some (cleanE x) := by unfold und; rw [if_pos rfl, hx]; rfl
        by_cases hm : p ∈ rest
        · rw [h3 _ hm hu]; rfl
        · rw [h2 hm, hu]
      · have hu : und m a p = some x := by unfold und; rw [if_neg hpa, hx]
        rcases List.mem_cons.1 hp with h | h
        · exact absurd h hpa
        · exact h3 _ h hu
theorem und_all (m : M) (n : Nat) (hn : n < 64) : undL m (filtN E.d (list m)) n = cl m n := by
  obtain ⟨h1, h2, h3⟩ := undL_some m (filtN E.d (list m)) n
  unfold cl
  cases hm : m n with
  | none => rw [hm] at h1; simpa using h1
  | some x =>
    by_cases hp : n ∈ filtN E.d (list m)
    · rw [h3 x hp hm]; rfl
    · rw [h2 hp, hm]
      have hd : x.d = false := by
        cases hd : x.d with
        | false => rfl
        | true =>
          refine absurd ?_ hp
          unfold filtN
          exact List.mem_map.2 ⟨(n, x), List.mem_filter.2 ⟨list_mem_of m 64 0 n x (by omega) (by omega) hm, hd⟩, rfl⟩
      obtain ⟨f, a, b, c, d⟩ := x
      simp only at hd
      subst hd
      rfl
/-- Tables that say the same of all pages there are. -/
theorem Tab.same {w : World} {bt : Nat} {q : Nat → Option Nat} {m m' : M} (h : Tab w bt q m) (he : ∀ n, n < 64 → m n = m' n) : Tab w bt q m' := by
  have hp : ∀ i, i < 8 → partArr m i = partArr m' i := fun i hi => by
    unfold partArr partList
    rw [he (8*i) (by omega), he (8*i+1) (by omega), he (8*i+2) (by omega), he (8*i+3) (by omega), he (8*i+4) (by omega), he (8*i+5) (by omega), he (8*i+6) (by omega), he (8*i+7) (by omega)]
  refine ⟨h.top, fun i b hi hb => by rw [← hp i hi]; exact h.part i b hi hb, fun i b hi hb => ?_, fun i j hi hn hj => by rw [← he _ (by omega)]; exact h.none_ i j hi hn hj, h.inj⟩
  obtain ⟨j, hj, hs⟩ := h.some_ i b hi hb
  exact ⟨j, hj, by rw [← he _ (by omega)]; exact hs⟩

/-- A row that is owned, of elements of one cell. -/
theorem ownsRow_open {w : World} {base : Nat} {e : TypeId} {v : Value} {n : Nat} {xs : List Value} (h : w.ownsRow base e 1 v n xs) (hn : 0 < n) :
    ∃ (g cap : Nat) (cur : Array Value), v = .slice (some ⟨g, 0, none⟩) n cap ∧ base ≤ g ∧ Blk w g e cur ∧ ∀ (k : Nat) (u : Value), xs[k]? = some u → cur[k]? = some u := by
  rcases h.2 with ⟨_, h0⟩ | ⟨g, cap, cur, rfl, hb, hg, _, _, _, ht⟩
  · omega
  · refine ⟨g, cap, cur, rfl, hb, hg, fun k u hk => ?_⟩
    rw [← ht, List.getElem?_take] at hk
    split at hk
    · simpa using hk
    · cases hk

set_option maxHeartbeats 1000000 in
theorem clean_any {w : World} {bt : Nat} {q : Nat → Option Nat} {m : M} (hT : Tab w bt q m) : Calls Try.prog 20 #[.pointer (some ⟨bt, 0, none⟩)] w fun e W' => e = .returned (.int .i64 (filt E.d (list m)).length) ∧ Mut w bt q (cl m) W' := by
  have H0 := dirty_any hT
  have hlen : (filtN E.d (list m)).length ≤ 64 := by
    have := listN_len m 64 0
    unfold filtN; rw [List.length_map]
    exact Nat.le_trans (List.length_filter_le _ _) this
  have hin : ∀ k, k < (filtN E.d (list m)).length → ∃ x, (filtN E.d (list m)).getD k 0 < 64 ∧ m ((filtN E.d (list m)).getD k 0) = some x := fun k hk => by
    have hg : (filtN E.d (list m)).getD k 0 ∈ filtN E.d (list m) := by
      rw [List.getD_eq_getElem?_getD, List.getElem?_eq_getElem hk]; exact List.getElem_mem hk
    obtain ⟨h1, x, h2, _⟩ := mem_filtN hg
    exact ⟨x, h1, h2⟩
  have hun := und_all m
  rw [filt_filtN] at H0 ⊢
  simp only [List.length_map, List.map_map] at H0 ⊢
  generalize filtN E.d (list m) = ds at *
  have H := Lib.hid H0
  clear H0
  go_enter Try.func20, Try.ntmps20
  by_cases hpos : 0 < ds.length
  case neg =>
    obtain rfl : ds = [] := List.eq_nil_of_length_eq_zero (by omega)
    go_wp2_with (go_at_call 22; refine H.out.mono ?_; rintro e w1 ⟨v, rfl, h1, h2, h3⟩; obtain rfl := h2.2 rfl; clear h1 h2)
    go_loopw [10] (fun c wr => c = .int .i64 0 ∧ wr = w1) (fun _ _ => 0)
    case atStart => exact ⟨rfl, rfl⟩
    case round =>
      obtain ⟨rfl, rfl⟩ := hrel
      go_wp2
      go_ret
      exact ⟨rfl, q, (hT.below h3 (Nat.le_refl _)).same (fun n hn => hun n hn), But.of_below h3, fun k hk => .inl hk⟩
  case pos =>
    have HIN := Lib.hid hin
    have HUN := Lib.hid hun
    clear hin hun
    go_wp2_with (go_at_call 22; refine H.out.mono ?_; rintro e w1 ⟨v, rfl, h1, h2, h3⟩; obtain ⟨g, cap, cur, rfl, hgb, hgB, hgc⟩ := ownsRow_open h1 hpos; clear h1 h2)
    go_loopw [10] (fun c wr => ∃ k : Nat, k ≤ ds.length ∧ c = .int .i64 k ∧ Tab wr bt q (undL m (ds.take k)) ∧ Blk wr g 3 cur ∧ But (Own bt q) w wr) (fun c _ => ds.length - (intOf c).toNat)
    case atStart => exact ⟨0, by omega, rfl, hT.below h3 (Nat.le_refl _), hgB, But.of_below h3⟩
    case round =>
      obtain ⟨k, hk, rfl, hTr, hgr, hBr⟩ := hrel
      by_cases hlt : k < ds.length
      · obtain ⟨x, hp64, hmx⟩ := HIN.out k hlt
        have hcell : wr.cell? ⟨g, k, none⟩ = some (.int .i64 (ds.getD k 0 : Nat)) := by
          rw [hgr.cell]
          refine hgc k _ ?_
          simp [List.getElem?_eq_getElem hlt, List.getD_eq_getElem?_getD]
        have htk : ds.take (k + 1) = ds.take k ++ [ds.getD k 0] := by
          rw [List.take_succ_eq_append_getElem hlt, List.getD_eq_getElem?_getD, List.getElem?_eq_getElem hlt]; rfl
        generalize ds.getD k 0 = p at *
        have hsome : (undL m (ds.take k) p).isSome = true := by rw [(undL_some m (ds.take k) p).1, hmx]; rfl
        obtain ⟨y, hy⟩ := Option.isSome_iff_exists.1 hsome
        cases hq : q (p / 8) with
        | none =>
          have := hTr.none_ _ _ (div8 p hp64) hq (mod8 p)
          rw [dm8, hy] at this
          cases this
        | some pb =>
          have hat := at_in hTr p hp64
          rw [hq] at hat
          simp only [Option.map_some] at hat
          have hpt := hTr.part _ _ (div8 p hp64) hq
          have s4 := hTr.slot hp64 hq (k := 4) (by omega)
          rw [hy] at s4
          simp only [slotList, List.getElem?_cons_zero, List.getElem?_cons_succ] at s4
          have f4 := hpt.frozen (p % 8 * 6 + 4)
          have hnew := hTr.clean1 hp64 hq hy
          rw [← undL_snoc, ← htk] at hnew
          have hgn := hgr.far (p := ⟨pb, p % 8 * 6 + 4, none⟩) (hgr.ne_ hpt (by decide)) (.bool false)
          have hBn := hBr.setCell (p := ⟨pb, p % 8 * 6 + 4, none⟩) (.inl (.inr ⟨_, div8 p hp64, hq⟩)) (.bool false)
          have HA := Lib.hid hat
          have HN := Lib.hid hnew
          clear hat hnew hy hsome hq htk hmx hTr hgr hpt hBr hgB hT
          go_wp2_with (go_at_call 31; refine HA.out.mono ?_; rintro e w' ⟨rfl, rfl⟩)
          go_roundw
          case rel => exact ⟨k + 1, by omega, by go_num, HN.out, hgn, hBn⟩
          case measure => simp [intOf]; omega
      · have hkd : ds.take k = ds := List.take_of_length_le (by omega)
        rw [hkd] at hTr
        clear hkd
        go_wp2
        go_ret
        exact ⟨rfl, q, hTr.same (fun n hn => HUN.out n hn), hBr, fun k hk => .inl hk⟩
end Go.Proofs.Ytgdimjcpdndklaa
