/-
  script.Check: may an operation be done? Condition: the words' table lies as the program's text lays it.
-/
import Derived.Test.YtgefnicpkfcghaaDoorScE
import Derived.Stop.RegionWithIn
namespace Go.Proofs.YtgefnicpkfcghaaDoor
open Go.RowKit Go.Shelf
set_option linter.unusedVariables false
set_option linter.unusedSimpArgs false
attribute [local go_sem] Oper.semAt_some

theorem parts1_stops (n : Nat) (hn : 3 ≤ n) (Bk : Nat) (k : Int) (w : World) (hB : Blk w Bk 3 #[.int .i64 k]) (Kp : World → World → Prop) :
    SeqStopsK Fence.wide n Tryd.prog 49 #[.pointer (some ⟨Bk, 0, none⟩)] encP Kp (fun ys => ys = partsL k) (fun pre => pre <+: partsL k) 1000000 w := fun l J Jx W hW hJ _ hY h0 =>
  parts1_in l Bk k Kp n hn J Jx hY W (hB.below hW hB.lt) h0
theorem parts_in (n : Nat) (k : Int) (w : World) :
    CallsIn Fence.wide n Tryd.prog 26 #[.int .i64 k] w fun e w' => e = .returned (.func (.func 49) #[] #[.pointer (some ⟨w.heap.size, 0, none⟩)]) ∧ w' = w.alloc (.cells #[.int .i64 k] 3) := by
  refine callsIn_of_wp Tryd.func26 rfl trivial ?_ rfl
  simp only [Tryd.ntmps26, List.size_toArray, List.length_cons, List.length_nil, Nat.reduceAdd, Nat.reduceSub, Array.replicate_succ, Array.replicate_zero, List.push_toArray, List.append_toArray, List.nil_append, List.cons_append]
  gi_wp2
  go_ret
  exact ⟨rfl, rfl⟩
theorem bl_2 (w : World) (a b : Obj) : Below w.heap.size w ((w.alloc a).alloc b) := ((Below.refl _ w).alloc (Nat.le_refl _) _).alloc (by simp) _
def mayE (x : O) : Int := if MayO x then 0 else 200

set_option maxRecDepth 100000 in
set_option maxHeartbeats 4000000 in
theorem check_in (n : Nat) (hn : 6 ≤ n) {w : World} (hW : WordsAt w) (k co nn p s m : Int) (nm : ByteArray) (hr : RangeO ⟨k, co, nn, p, s, m, nm⟩) :
    CallsIn Fence.wide n Tryd.prog 14 #[.agg #[.int .i64 k, .int .i64 co, .int .i64 nn, .int .i64 p, .int .i64 s, .int .u32 m, .string nm]] w fun e w' => e = .returned (.int .i64 (mayE ⟨k, co, nn, p, s, m, nm⟩)) ∧ Below w.heap.size w w' := by
  have h1 : 1 ≤ n := by omega
  have HW := Lib.hid hW
  have HR := Lib.hid hr
  clear hW hr
  obtain ⟨kw, hkw⟩ : ∃ kw : ByteArray, kw = ⟨(kindW k).toArray⟩ := ⟨_, rfl⟩
  have HN := Lib.hid (fun W (hW : Below w.heap.size w W) => show CallsIn Fence.wide (n - 1) Tryd.prog 15 #[.int .i64 k] W fun e w' => e = .returned (.string kw) ∧ w' = W from by rw [hkw]; exact callsIn_wide.2 (name_any (HW.out.below hW) k))
  have HKW := Lib.hid hkw
  clear hkw
  refine callsIn_of_wp_marks Tryd.func14 rfl trivial ?_ rfl
  simp only [Tryd.ntmps14, List.size_toArray, List.length_cons, List.length_nil, Nat.reduceAdd, Nat.reduceSub, Array.replicate_succ, Array.replicate_zero, List.push_toArray, List.append_toArray, List.nil_append, List.cons_append]
  gi_wp2
  refine wpIn_scope_straight ?_
  gi_wp2_with fail
  refine ⟨trivial, ?_⟩
  refine (HN.out _ ?_).mono ?_
  · exact bl_2 _ _ _
  rintro e W1 ⟨rfl, rfl⟩
  gi_wp2_with fail
  refine wpIn_label ?_
  gi_wp2_with (refine ⟨trivial, ?_⟩; gi_at_call 26; refine (parts_in (n - 1) _ _).mono ?_; rintro e w' ⟨rfl, rfl⟩)
  obtain ⟨fb, hfb⟩ : ∃ fb, fb = !kw.toList.isEmpty := ⟨_, rfl⟩
  rw [← hfb]
  have HFB := Lib.hid hfb
  clear hfb
  have hX4 := (((Blk.new w 24 #[.int .i64 k, .int .i64 co, .int .i64 nn, .int .i64 p, .int .i64 s, .int .u32 m, .string nm]).alloc (.cells #[.int .i64 k, .int .i64 0, .int .i64 0, .int .i64 0, .int .i64 0, .int .u32 0, .string ⟨#[]⟩] 24)).alloc (.cells #[.bool fb] 4)).alloc (.cells #[.int .i64 k] 3)
  have hY4 := ((Blk.new (w.alloc (.cells #[.int .i64 k, .int .i64 co, .int .i64 nn, .int .i64 p, .int .i64 s, .int .u32 m, .string nm] 24)) 24 #[.int .i64 k, .int .i64 0, .int .i64 0, .int .i64 0, .int .i64 0, .int .u32 0, .string ⟨#[]⟩]).alloc (.cells #[.bool fb] 4)).alloc (.cells #[.int .i64 k] 3)
  have hF4 := (Blk.new ((w.alloc (.cells #[.int .i64 k, .int .i64 co, .int .i64 nn, .int .i64 p, .int .i64 s, .int .u32 m, .string nm] 24)).alloc (.cells #[.int .i64 k, .int .i64 0, .int .i64 0, .int .i64 0, .int .i64 0, .int .u32 0, .string ⟨#[]⟩] 24)) 4 #[.bool fb]).alloc (.cells #[.int .i64 k] 3)
  have hK4 := Blk.new (((w.alloc (.cells #[.int .i64 k, .int .i64 co, .int .i64 nn, .int .i64 p, .int .i64 s, .int .u32 m, .string nm] 24)).alloc (.cells #[.int .i64 k, .int .i64 0, .int .i64 0, .int .i64 0, .int .i64 0, .int .u32 0, .string ⟨#[]⟩] 24)).alloc (.cells #[.bool fb] 4)) 3 #[.int .i64 k]
  simp only [World.size_alloc] at hX4 hY4 hF4 hK4
  have hB4 : Below w.heap.size w ((((w.alloc (.cells #[.int .i64 k, .int .i64 co, .int .i64 nn, .int .i64 p, .int .i64 s, .int .u32 m, .string nm] 24)).alloc (.cells #[.int .i64 k, .int .i64 0, .int .i64 0, .int .i64 0, .int .i64 0, .int .u32 0, .string ⟨#[]⟩] 24)).alloc (.cells #[.bool fb] 4)).alloc (.cells #[.int .i64 k] 3)) := ((bl_2 w _ _).alloc (by simp; omega) _).alloc (by simp; omega) _
  have hs4 : ((((w.alloc (.cells #[.int .i64 k, .int .i64 co, .int .i64 nn, .int .i64 p, .int .i64 s, .int .u32 m, .string nm] 24)).alloc (.cells #[.int .i64 k, .int .i64 0, .int .i64 0, .int .i64 0, .int .i64 0, .int .u32 0, .string ⟨#[]⟩] 24)).alloc (.cells #[.bool fb] 4)).alloc (.cells #[.int .i64 k] 3)).heap.size = w.heap.size + 4 := by simp
  obtain ⟨W4, hW4⟩ : ∃ W4, ((((w.alloc (.cells #[.int .i64 k, .int .i64 co, .int .i64 nn, .int .i64 p, .int .i64 s, .int .u32 m, .string nm] 24)).alloc (.cells #[.int .i64 k, .int .i64 0, .int .i64 0, .int .i64 0, .int .i64 0, .int .u32 0, .string ⟨#[]⟩] 24)).alloc (.cells #[.bool fb] 4)).alloc (.cells #[.int .i64 k] 3)) = W4 := ⟨_, rfl⟩
  rw [hW4] at hX4 hY4 hF4 hK4 hB4 hs4 ⊢
  clear hW4
  obtain ⟨X, hX⟩ : ∃ X : O, X = ⟨k, co, nn, p, s, m, nm⟩ := ⟨_, rfl⟩
  have hXc : X.cells = [.int .i64 k, .int .i64 co, .int .i64 nn, .int .i64 p, .int .i64 s, .int .u32 m, .string nm] := by rw [hX]; rfl
  have hI4 : CI w X (projO X []) fb W4 := ⟨by rw [hXc]; exact hX4, by rw [hX]; exact hY4, hF4, hB4⟩
  refine wpIn_rangeFunc_ownH rfl h1 (gf := 49) (lb := #[.pointer (some ⟨w.heap.size + 1 + 1 + 1, 0, none⟩)]) rfl trivial (enters_of Tryd.func49 (by kernel_rfl) rfl)
    (parts1_stops (n - 1) (by omega) (w.heap.size + 1 + 1 + 1) k W4 hK4 (fun _ _ => True)) (fun _ _ => trivial) (fun _ _ _ _ _ _ _ _ => trivial) (Below.refl _ _) (fun _ => rfl)
    (fun (pre : List Nat) W => CI w X (projO X pre) (if pre = [] then fb else true) W ∧ ∀ b ∈ pre, okO X b = true)
    (fun c pre W => c = .exit 0 ∧ (∃ y, CI w X y false W) ∧ ∃ b ∈ pre, okO X b = false)
    (fun pre A B row hs hg hr => ⟨hs.1.grown (by omega) hg hr, hs.2⟩)
    (fun c pre A B row hs hg hr => ⟨hs.1, hs.2.1.elim fun y h => ⟨y, h.grown (by omega) hg hr⟩, hs.2.2⟩)
    ⟨hI4, fun b hb => by cases hb⟩
    (fun b a' W => a' = { tmps := #[.agg #[.int .i64 k, .int .i64 co, .int .i64 nn, .int .i64 p, .int .i64 s, .int .u32 m, .string nm], .pointer (some ⟨w.heap.size, 0, none⟩), .int .i64 0, .pointer (some ⟨w.heap.size + 1, 0, none⟩), .pointer (some ⟨w.heap.size + 1 + 1, 0, none⟩), .int .u8 (b : Int), .pointer (some ⟨w.heap.size, 0, none⟩), .int .i64 k, .agg #[.int .i64 k, .int .i64 0, .int .i64 0, .int .i64 0, .int .i64 0, .int .u32 0, .string ⟨#[]⟩], .pointer (some ⟨w.heap.size, 0, none⟩), .int .i64 k, .string kw, .bool fb, .pointer (some ⟨w.heap.size, 0, none⟩), .int .i64 k, .func (.func 49) #[] #[.pointer (some ⟨w.heap.size + 1 + 1 + 1, 0, none⟩)], .int .u8 (b : Int), undef, undef, undef, undef, undef, undef, undef, undef, undef, undef, undef, undef, undef, undef, undef, undef, undef, undef, undef, undef, undef, undef], defers := [] })
    (fun b a' _ A B row hs hg hr => hs)
    ?assign ?body ?done ?stop
  case assign =>
    rintro l pre b W K' hI hK'
    simp only [encP] at hK' ⊢
    gi_wp2
    exact hK' _ _ (KeepsFrom.refl _ _) trivial hI rfl
  case body =>
    rintro l pre b a' W hl ⟨r, hr⟩ ⟨hI, hok⟩ rfl hlt
    dsimp only
    obtain ⟨fp, hfp⟩ : ∃ fp : Bool, fp = (if pre = [] then fb else true) := ⟨_, rfl⟩
    obtain ⟨y, hy⟩ : ∃ y, y = projO X pre := ⟨_, rfl⟩
    rw [← hfp, ← hy] at hI
    have HFP := Lib.hid hfp
    have HY := Lib.hid hy
    have HOK := Lib.hid hok
    have HXX := Lib.hid hX
    clear hfp hok hy hX
    have hlt2 := hI.lt
    have HI := Lib.hid hI
    clear hI
    by_cases hb : b = 119
    · subst hb
      obtain ⟨g, hg⟩ : ∃ g, g = nameB nm.data.toList := ⟨_, rfl⟩
      have HNM := Lib.hid (fun V => show CallsIn (Fence.wide.inRound l) (n - 1 - 1 - 1) Tryd.prog 37 #[.string nm] V fun e w' => e = .returned (.bool g) ∧ Below V.heap.size V w' from by rw [hg]; exact callsIn_wide.2 (named_any nm))
      have HG := Lib.hid hg
      clear hg
      have hx6 := (ocells (hXc ▸ HI.out.x : Blk W w.heap.size _ #[_, _, _, _, _, _, _])).2.2.2.2.2.2
      have HN3 := Lib.hid (show 1 ≤ n - 1 - 1 by omega)
      have HC := Lib.hid (fun V (h : CI w X y fp V) => show V.cell? ⟨w.heap.size, 6, none⟩ = some (.string nm) ∧ V.frozen? ⟨w.heap.size + 1, 6, none⟩ = false ∧ V.frozen? ⟨w.heap.size + 1 + 1, 0, none⟩ = false ∧ V.cell? ⟨w.heap.size + 1, 6, none⟩ = some (.string y.w) ∧ V.cell? ⟨w.heap.size + 1 + 1, 0, none⟩ = some (.bool fp) from
        ⟨(ocells (hXc ▸ h.x : Blk V w.heap.size _ #[_, _, _, _, _, _, _])).2.2.2.2.2.2, h.y.frozen 6, h.f.frozen 0, (h.y.cell 6).trans rfl, (h.f.cell 0).trans rfl⟩)
      gi_wp2
      gi_region_with (refine ⟨trivial, fun _ => HN3.out, ?_⟩; refine (HNM.out _).mono ?_; rintro e V ⟨rfl, hb3⟩; have hI3 := HI.out.drew.below hb3; obtain ⟨v1, v2, v3, v4, v5⟩ := HC.out V hI3; have hlt3 := hI3.lt)
      all_goals
        have hKO : KeepsOthers W ((V.setCell ⟨w.heap.size + 1, 6, none⟩ (.string nm)).setCell ⟨w.heap.size + 1 + 1, 0, none⟩ (.bool g)) := ((KeepsOthers.drew W).trans (KeepsOthers.of_grownBy (grownBy_below hb3) (fun j o e => by cases e))).trans ((KeepsOthers.setCell _ _ _).trans (KeepsOthers.setCell _ _ _))
        have hI5 := (hI3.setW nm).setF g
        clear v1 v2 v3 v4 v5 hb3 hI3 hlt3
        generalize (V.setCell ⟨w.heap.size + 1, 6, none⟩ (.string nm)).setCell ⟨w.heap.size + 1 + 1, 0, none⟩ (.bool g) = W5 at *
        have hf := hI5.f.cell 0
        simp only [List.getElem?_toArray, List.getElem?_cons_zero] at hf
        have hgo : okO X 119 = g := by rw [HXX.out]; exact HG.out.symm
        cases g with
        | false =>
          gi_wp2
          exact ⟨hKO.from _, rfl, ⟨_, hI5⟩, 119, by simp, hgo⟩
        | true =>
          gi_wp2
          refine ⟨hKO.from _, trivial, ?_, ?_⟩
          · rw [projO_snoc, ← HY.out, if_neg (by simp)]
            have h : stepO X y 119 = { y with w := nm } := by unfold stepO; rw [if_pos rfl, HXX.out]
            rw [h]
            exact hI5
          · intro c hc
            rcases List.mem_append.1 hc with hc | hc
            · exact HOK.out c hc
            · rw [List.mem_singleton.1 hc]
              exact hgo
    · have hbi : ¬ (b : Int) = 119 := by omega
      obtain ⟨gv, hgv⟩ : ∃ gv, gv = getO X b := ⟨_, rfl⟩
      obtain ⟨g, hg⟩ : ∃ g, g = fineP b gv := ⟨_, rfl⟩
      have hvr := get_range HR.out b
      rw [← HXX.out, ← hgv] at hvr
      have HGT := Lib.hid (fun V => show CallsIn (Fence.wide.inRound l) (n - 1 - 1 - 1) Tryd.prog 28 #[.agg #[.int .i64 k, .int .i64 co, .int .i64 nn, .int .i64 p, .int .i64 s, .int .u32 m, .string nm], .int .u8 (b : Int)] V fun e w' => e = .returned (.int .i64 gv) ∧ Below V.heap.size V w' from by rw [hgv, HXX.out]; exact callsIn_wide.2 (get_any k co nn p s m nm HR.out.2.2.2.2 b))
      have HPT := Lib.hid (fun V (hV : CI w X y fp V) => show CallsIn (Fence.wide.inRound l) (n - 1 - 1 - 1) Tryd.prog 34 #[.pointer (some ⟨w.heap.size + 1, 0, none⟩), .int .u8 (b : Int), .int .i64 gv] V fun e w' => e = .returned (.bool g) ∧ CI w X (putO y b gv) fp w' ∧ KeepsOthers V w' from by
        rw [hg]
        refine (callsIn_wide.2 (put_any (w.heap.size + 1) y hV.y b gv hvr)).mono ?_
        rintro e w' ⟨h1, h2, i, u, rfl⟩
        exact ⟨h1, hV.setP h2, KeepsOthers.setCell _ _ _⟩)
      have HG := Lib.hid hg
      have HGV := Lib.hid hgv
      clear hg hgv hvr
      obtain ⟨x0, x1, x2, x3, x4, x5, x6⟩ := ocells (hXc ▸ HI.out.x : Blk W w.heap.size _ #[_, _, _, _, _, _, _])
      gi_wp2
      refine ⟨trivial, fun _ => by omega, (HGT.out _).mono ?_⟩
      rintro e V ⟨rfl, hb3⟩
      have hI3 := HI.out.below hb3
      have hK3 := KeepsOthers.of_grownBy (grownBy_below hb3) (fun j o e => by cases e)
      clear x0 x1 x2 x3 x4 x5 x6 hb3
      gi_wp2
      refine ⟨trivial, fun _ => by omega, (HPT.out _ hI3).mono ?_⟩
      rintro e V4 ⟨rfl, hI4', hK4'⟩
      have hf3 := hI4'.f.cell 0
      have hf4 := hI4'.f.frozen 0
      have hlt4 := hI4'.lt
      simp only [List.getElem?_toArray, List.getElem?_cons_zero] at hf3
      have hI5 := hI4'.setF g
      have hKO := (hK3.trans hK4').trans (KeepsOthers.setCell V4 ⟨w.heap.size + 1 + 1, 0, none⟩ (.bool g))
      have hok5 : okO X b = g := by unfold okO; rw [if_neg hb, ← HGV.out, ← HG.out]
      have hf5 := hI5.f.cell 0
      simp only [List.getElem?_toArray, List.getElem?_cons_zero] at hf5
      have HI5 := Lib.hid hI5
      have HKO := Lib.hid hKO
      have HOK5 := Lib.hid hok5
      clear hI3 hK3 hI4' hK4' hI5 hKO hok5
      cases g with
      | false =>
        gi_wp2
        exact ⟨HKO.out.from _, rfl, ⟨_, HI5.out⟩, b, by simp, HOK5.out⟩
      | true =>
        gi_wp2
        refine ⟨HKO.out.from _, trivial, ?_, ?_⟩
        · rw [projO_snoc, ← HY.out, if_neg (by simp)]
          have h : stepO X y b = putO y b gv := by unfold stepO; rw [if_neg hb, ← HGV.out]
          rw [h]
          exact HI5.out
        · intro c hc
          rcases List.mem_append.1 hc with hc | hc
          · exact HOK.out c hc
          · rw [List.mem_singleton.1 hc]
            exact HOK5.out
  case done =>
    rintro D ys W hD rfl ⟨hI, hok⟩ hK
    obtain ⟨F, hF⟩ : ∃ F : Bool, F = (if partsL k = [] then fb else true) := ⟨_, rfl⟩
    obtain ⟨Y, hY⟩ : ∃ Y, Y = projO X (partsL k) := ⟨_, rfl⟩
    rw [← hF, ← hY] at hI
    have hkX : X.k = k := by rw [hX]
    have hMay : MayO X ↔ F = true ∧ X = Y := by
      rw [hF, hY]
      unfold MayO
      rw [hkX]
      have h2 : kindW k ≠ [] ↔ (if partsL k = [] then fb else true) = true := by
        split
        · rw [HFB.out, HKW.out]
          cases hh : kindW k with
          | nil => simp
          | cons c cs => simp
        · rename_i h
          exact ⟨fun _ => rfl, fun _ => parts_ne h⟩
      rw [h2]
      exact ⟨fun h => ⟨h.1, h.2.2⟩, fun h => ⟨h.1, hok, h.2⟩⟩
    obtain ⟨r, hr⟩ : ∃ r, r = mayE X := ⟨_, rfl⟩
    have hrY : (F = true → X = Y → r = 0) ∧ (¬ (F = true ∧ X = Y) → r = 200) := ⟨fun h1 h2 => hr.trans (if_pos (hMay.2 ⟨h1, h2⟩)), fun h => hr.trans (if_neg (fun h' => h (hMay.1 h')))⟩
    rw [hX] at hr
    have HRR := Lib.hid hr
    have HRY := Lib.hid hrY
    have HK := Lib.hid hK
    have HI := Lib.hid hI
    have hf := hI.f.cell 0
    have hlt := hI.lt
    simp only [List.getElem?_toArray, List.getElem?_cons_zero] at hf
    have hxc := ocells (hXc ▸ hI.x : Blk W w.heap.size _ #[_, _, _, _, _, _, _])
    have HE := fun V => eqO X Y V
    obtain ⟨yk, yco, yn, yp, ys, ym, yw⟩ := Y
    have hyc := ocells hI.y
    rw [hXc] at HE
    simp only [O.cells] at HE hyc
    clear hI hK hMay hr hrY hok hF hY hkX
    dsimp only
    cases F with
    | false =>
      have HR0 := Lib.hid (HRY.out.2 (by simp))
      clear hxc hyc HE
      gi_wp2
      refine ⟨by simp, .inl ⟨_, _, rfl, run_takeDeferred HK.out, ?_⟩⟩
      exact ⟨_, results_tmp rfl _ _ _, by rw [← HRR.out, HR0.out]; rfl, HI.out.b.trans (belowK_b (w := w) (Nat.le_refl _) W D _ _ (by omega) HK.out rfl rfl)⟩
    | true =>
      by_cases he : X = ⟨yk, yco, yn, yp, ys, ym, yw⟩
      · rw [decide_eq_true he] at HE
        have HR0 := Lib.hid (HRY.out.1 rfl he)
        clear he hX
        gi_wp2
        refine ⟨by simp, .inl ⟨_, _, rfl, run_takeDeferred HK.out, ?_⟩⟩
        exact ⟨_, results_tmp rfl _ _ _, by rw [← HRR.out, HR0.out]; rfl, HI.out.b.trans (belowK_b (w := w) (Nat.le_refl _) W D _ _ (by omega) HK.out rfl rfl)⟩
      · rw [decide_eq_false he] at HE
        have HR0 := Lib.hid (HRY.out.2 (fun h => he h.2))
        clear he hX
        gi_wp2
        refine ⟨by simp, .inl ⟨_, _, rfl, run_takeDeferred HK.out, ?_⟩⟩
        exact ⟨_, results_tmp rfl _ _ _, by rw [← HRR.out, HR0.out]; rfl, HI.out.b.trans (belowK_b (w := w) (Nat.le_refl _) W D _ _ (by omega) HK.out rfl rfl)⟩
  case stop =>
    rintro D c pre W hD hpre ⟨rfl, ⟨y, hI⟩, b, hb, hbad⟩ hK
    have hx := hI.f.cell 0
    simp only [List.getElem?_toArray, List.getElem?_cons_zero] at hx
    have HI := Lib.hid hI
    have HK := Lib.hid hK
    have hno : mayE ⟨k, co, nn, p, s, m, nm⟩ = 200 := by
      rw [← hX]
      refine if_neg (fun h => ?_)
      have h2 := h.2.1 b (by rw [hX]; exact hpre.subset hb)
      rw [hbad] at h2
      cases h2
    have HNO := Lib.hid hno
    clear hI hK hX hno
    dsimp only
    gi_wp2
    rw [Exit.noGoto_ret]
    refine ⟨by simp, .inl ⟨_, _, rfl, run_takeDeferred HK.out, ?_⟩⟩
    exact ⟨_, results_tmp rfl _ _ _, by rw [HNO.out]; rfl, HI.out.b.trans (belowK_b (w := w) (Nat.le_refl _) W D _ _ (by omega) HK.out rfl rfl)⟩

theorem check_any {w : World} (hW : WordsAt w) (x : O) (hr : RangeO x) :
    Calls Tryd.prog 14 #[.agg x.cells.toArray] w fun e w' => e = .returned (.int .i64 (mayE x)) ∧ Below w.heap.size w w' := by
  obtain ⟨k, co, nn, p, s, m, nm⟩ := x
  exact callsIn_wide.1 (check_in 6 (by omega) hW k co nn p s m nm hr)
end Go.Proofs.YtgefnicpkfcghaaDoor
