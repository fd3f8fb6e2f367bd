/-
  The document's Assemble, walked. No condition but the text's length.
-/
import Derived.Test.YtpikgebfeleajaaGreatDoorRi9
import Derived.Test.YtpikgebfeleajaaGreatDoorRiC
namespace Go.Proofs.YtpikgebfeleajaaGreatDoor.I
open Go.RowKit
set_option linter.unusedVariables false
set_option linter.unusedSimpArgs false
attribute [local go_sem] Oper.semAt_some

theorem infoPl : (Tryz.prog.info? 111).map (fun i => (i.zero, i.size, i.bytes)) = some (some (.agg #[.string ⟨#[]⟩, .int .i64 0]), 2, 24) := by kernel_rfl
theorem infoU3 : (Tryz.prog.info? 41).map (fun i => (i.zero, i.size, i.bytes)) = some (some (.int .u32 0), 1, 4) := by kernel_rfl
abbrev OwnPl (w : World) (base : Nat) (v : Value) (ps : List (List UInt8 × Int)) : Prop := w.ownsRow base 111 2 v ps.length (ps.flatMap placeC)
abbrev OwnU3 (w : World) (base : Nat) (v : Value) (l : List Int) : Prop := w.ownsRow base 41 1 v l.length (l.map (Value.int .u32))
theorem ownPl_snoc {w : World} {base : Nat} {v : Value} {l : List (List UInt8 × Int)} {x : List UInt8 × Int} (h : w.ownsRow base 111 2 v (l.length + 1) (l.flatMap placeC ++ placeC x)) : OwnPl w base v (l ++ [x]) := by
  unfold OwnPl
  rw [List.length_append, List.flatMap_append]
  simpa using h
theorem ownU3_snoc {w : World} {base : Nat} {v : Value} {l : List Int} {x : Int} (h : w.ownsRow base 41 1 v (l.length + 1) (l.map (Value.int .u32) ++ [.int .u32 x])) : OwnU3 w base v (l ++ [x]) := by
  unfold OwnU3
  rw [List.length_append, List.map_append]
  exact h
/-- The lines' slice, whatever has been appended to it. -/
theorem lines_at {w : World} {base : Nat} {v : Value} {ls : List (List UInt8)} (h : w.ownsRow base 9 1 v ls.length (ls.map strV)) :
    ∃ A cap, v = .slice A ls.length cap ∧ ∀ w', Below w.heap.size w w' → ∀ (j : Nat) (x : List UInt8), ls[j]? = some x → ∃ b, A = some ⟨b, 0, none⟩ ∧ w'.cell? ⟨b, j, none⟩ = some (.string ⟨x.toArray⟩) := by
  rcases h.2 with ⟨rfl, hz⟩ | ⟨g, cap, cur, rfl, hb, hg, hnc, _⟩
  · refine ⟨none, 0, by rw [hz], fun w' _ j x hx => ?_⟩
    rw [List.eq_nil_of_length_eq_zero hz] at hx
    simp at hx
  · refine ⟨some ⟨g, 0, none⟩, cap, rfl, fun w' hw j x hx => ⟨g, rfl, ?_⟩⟩
    have hj := (List.getElem?_eq_some_iff.1 hx).1
    have h2 := own_cells h hw hj rfl
    rw [h2]
    have : ls[j] = x := (List.getElem?_eq_some_iff.1 hx).2
    rw [this]
theorem pl_rows {w : World} {base : Nat} {v : Value} {ps : List (List UInt8 × Int)} (h : OwnPl w base v ps) : ∃ A cap, v = .slice A ps.length cap ∧ RowsAt w A 2 (ps.map placeC) := by
  have hf : ps.flatMap placeC = (ps.map placeC).flatten := by rw [List.flatMap_def]
  have h2 := h
  unfold OwnPl at h2
  rw [hf, show ps.length = (ps.map placeC).length from by simp] at h2
  obtain ⟨A, cap, e, hr, _⟩ := rows_own (k := 2) (fun r hr => by obtain ⟨p, _, rfl⟩ := List.mem_map.1 hr; rfl) h2
  rw [List.length_map] at e
  exact ⟨A, cap, e, hr⟩
/-- What Assemble hands back. -/
def AsmR (P : List Int × Int × Int) (w : World) (e : Ending) (w' : World) : Prop :=
  ∃ v, e = .returned (.tuple #[v, .int .i64 P.2.1, .int .i64 P.2.2]) ∧ OwnU3 w' w.heap.size v P.1 ∧ Below w.heap.size w w'
theorem asm_err {P : List Int × Int × Int} {w w' : World} {e : Ending} {i : Int} (hP : P = ([], i, 31)) (he : e = .returned (.tuple #[.slice none 0 0, .int .i64 i, .int .i64 31])) (hb : Below w.heap.size w w') : AsmR P w e w' := by
  subst hP
  exact ⟨_, he, World.ownsRow_nil _ _ _ _, hb⟩
theorem cut_yes {l : ByteArray} {q : Nat} (hs : l.size = q + 1) (h : l[q]'(by omega) = 58) : cutSuf 58 l.data.toList = some (l.extract 0 q).data.toList := by
  have hl : l.data.toList.length = q + 1 := hs
  have hlast : l.data.toList.getLast? = some 58 := by
    rw [List.getLast?_eq_getElem?, hl, Nat.add_sub_cancel, List.getElem?_eq_getElem (by omega), Array.getElem_toList]
    exact congrArg some h
  unfold cutSuf
  rw [if_pos hlast, ByteArray.data_extract, Array.toList_extract, List.extract_eq_take_drop, List.drop_zero, Nat.sub_zero, List.dropLast_eq_take, hl, Nat.add_sub_cancel]
theorem cut_not {l : ByteArray} {q : Nat} (hs : l.size = q + 1) (h : l[q]'(by omega) ≠ 58) : cutSuf 58 l.data.toList = none := by
  have hl : l.data.toList.length = q + 1 := hs
  unfold cutSuf
  rw [if_neg]
  rw [List.getLast?_eq_getElem?, hl, Nat.add_sub_cancel, List.getElem?_eq_getElem (by omega), Array.getElem_toList]
  intro e
  injection e with e
  exact h e
theorem cut_empty {l : ByteArray} (hs : l.size = 0) : cutSuf 58 l.data.toList = none := by
  have : l.data.toList = [] := List.eq_nil_of_length_eq_zero hs
  rw [this]
  rfl
/-- Places lie within. -/
def PlIn (ps : List (List UInt8 × Int)) : Prop := ∀ p ∈ ps, 0 ≤ p.2 ∧ p.2 ≤ 512
theorem find_in : ∀ {ps : List (List UInt8 × Int)} (h : PlIn ps) (s : List UInt8), -1 ≤ findP ps s ∧ findP ps s ≤ 512
  | [], _, s => ⟨by show (-1 : Int) ≤ -1; omega, by show (-1 : Int) ≤ 512; omega⟩
  | p :: ps, h, s => by
    rw [findP_cons]
    split
    · have := h p (List.mem_cons_self ..); omega
    · exact find_in (fun x hx => h x (List.mem_cons_of_mem _ hx)) s
theorem ownBelowI {w w' : World} {base : Nat} {e : TypeId} {size : Nat} {v : Value} {k : Nat} {xs : List Value} (h : w.ownsRow base e size v k xs) (hb : Below w.heap.size w w') : w'.ownsRow base e size v k xs :=
  h.kept (grownBy_below hb) (by cases v.ownBlock <;> simp)
theorem own_base {w : World} {b b' : Nat} {e : TypeId} {size : Nat} {v : Value} {k : Nat} {xs : List Value} (h : w.ownsRow b e size v k xs) (hb : b' ≤ b) : w.ownsRow b' e size v k xs := by
  refine ⟨h.1, ?_⟩
  rcases h.2 with h0 | ⟨g, cap, cur, h1, h2, h3⟩
  · exact .inl h0
  · exact .inr ⟨g, cap, cur, h1, by omega, h3⟩
theorem ext_takeR (l : ByteArray) (k : Nat) : (l.extract 0 k).data.toList = l.data.toList.take k := by
  rw [ByteArray.data_extract, Array.toList_extract, List.extract_eq_take_drop, List.drop_zero, Nat.sub_zero]
theorem ext_dropR (l : ByteArray) (k : Nat) : (l.extract k l.size).data.toList = l.data.toList.drop k := by
  rw [ByteArray.data_extract, Array.toList_extract, List.extract_eq_take_drop, List.take_of_length_le (by rw [List.length_drop]; exact Nat.le_refl _)]

theorem pl_rows_at {w w' : World} {base : Nat} {A : Option Addr} {n cp : Nat} {ps : List (List UInt8 × Int)} (h : OwnPl w base (.slice A n cp) ps) (hb : Below w.heap.size w w') : RowsAt w' A 2 (ps.map placeC) := by
  obtain ⟨A', c', e, hr⟩ := pl_rows (ownBelowI h hb)
  injection e with e1 e2 e3
  rw [e1]
  exact hr
theorem own_slice {w : World} {b : Nat} {e : TypeId} {size : Nat} {v : Value} {k : Nat} {xs : List Value} (h : w.ownsRow b e size v k xs) : ∃ A c, v = .slice A k c := by
  rcases h.2 with ⟨rfl, hz⟩ | ⟨g, cap, cur, rfl, _⟩
  · exact ⟨none, 0, by rw [hz]⟩
  · exact ⟨some ⟨g, 0, none⟩, cap, rfl⟩
theorem labs_nil : Labs [] [] := ⟨fun _ => rfl, fun s v h => by cases h⟩
set_option maxRecDepth 100000 in
set_option maxHeartbeats 16000000 in
theorem refAsm_any (hM : MayC) {w : World} (s : ByteArray) (hs : s.size ≤ 1000000) : Calls Tryz.prog 30 #[.string s] w (AsmR (asmR s.data.toList) w) := by
  obtain ⟨post, hpost⟩ : ∃ post : Ending → World → Prop, AsmR (asmR s.data.toList) w = post := ⟨_, rfl⟩
  rw [hpost]
  have HPOST := Lib.hid hpost
  clear hpost
  obtain ⟨i0, hi, hz0, hz1, hz2⟩ := info_parts infoStrI
  obtain ⟨i1, hi', hz0', hz1', hz2'⟩ := info_parts infoPl
  obtain ⟨i2, hi'', hz0'', hz1'', hz2''⟩ := info_parts infoU3
  have HSL := Lib.hid (show s.data.toList.length = s.size from rfl)
  have HC0 : Hid (cutL (s.data.toList.take 0) = ([], (s.data.toList.take 0).drop 0)) := rfl
  go_enter Tryz.func30, Tryz.ntmps30
  go_wp2
  go_loopw [5, 6, 7] (fun v x i wr => ∃ (k a : Nat) (ls : List (List UInt8)), i = .int .i64 (k : Int) ∧ x = .int .i64 (a : Int) ∧ k ≤ s.size ∧ a ≤ k ∧ ls.length ≤ k ∧ Hid (cutL (s.data.toList.take k) = (ls, (s.data.toList.take k).drop a)) ∧ wr.ownsRow w.heap.size 9 1 v ls.length (ls.map strV) ∧ Below w.heap.size w wr) (fun _ _ i _ => s.size - (intOf i).toNat)
  case atStart => exact ⟨0, 0, [], rfl, rfl, Nat.zero_le _, Nat.le_refl _, Nat.le_refl _, HC0, World.ownsRow_nil _ _ _ _, Below.refl _ _⟩
  case round =>
    obtain ⟨k, a, ls, rfl, rfl, hk, hak, hlk, HC, hown, hB⟩ := hrel
    clear HC0
    have hs1 := hB.size
    by_cases hks : k < s.size
    · have hka : (k : Int) < (s.size : Int) := by omega
      have hk0 : (0 : Int) ≤ (k : Int) := by omega
      have haki : (a : Int) ≤ (k : Int) := by omega
      have ha0 : (0 : Int) ≤ (a : Int) := by omega
      have hkle : (k : Int) ≤ (s.size : Int) := by omega
      have hcs : s.data.toList[k]? = some s[k] := by rw [List.getElem?_eq_getElem (by rw [HSL.out]; exact hks), Array.getElem_toList]; rfl
      have HTK := Lib.hid (show s.data.toList.take (k + 1) = s.data.toList.take k ++ [s[k]] from by rw [List.take_add_one, hcs]; rfl)
      have HTL := Lib.hid (show (s.data.toList.take k).length = k from by rw [List.length_take, HSL.out]; omega)
      have hown0 := hown
      have HO := Lib.hid hown
      have HX := Lib.hid (ext_seg s a k)
      clear hown hcs
      by_cases hc : s[k] = 10
      · have hcb : ((s[k].toNat : Int) == 10) = true := by rw [hc]; rfl
        obtain ⟨sg, hsg⟩ : ∃ sg, (s.data.toList.take k).drop a = sg := ⟨_, rfl⟩
        rw [hsg] at HX HC
        have HC2 := Lib.hid (show cutL (s.data.toList.take (k + 1)) = (ls ++ [sg], (s.data.toList.take (k + 1)).drop (k + 1)) from by
          rw [HTK.out, hc, cutL_snoc_end, HC.out, List.drop_of_length_le (by rw [List.length_append, HTL.out]; exact Nat.le_refl _)])
        clear hsg hc
        go_wp2_with (at_builtin; refine wpList_append_own _ rfl _ _ 106 rfl w.heap.size 9 i0 (.string ⟨#[]⟩) 1 16 Tryz.underlying106 hi hz0 hz1 hz2 rfl (by decide) _ _ _ rfl (hown0.alloc _) ⟨wr.heap.size, 0, none⟩ 1 1 [.string (s.extract a k)] rfl rfl (cells_new _ _ _) (by simp [Value.oneCell']) (by unfold maxLen; omega) (by omega) (by simp; omega) ?_; intro v' w1 hown' hgrow _)
        have hown2 : w1.ownsRow w.heap.size 9 1 v' (ls ++ [sg]).length ((ls ++ [sg]).map strV) := by
          rw [List.length_append]
          rw [HX.out] at hown'
          exact ownStr_snoc hown'
        have HO2 := Lib.hid hown2
        have HB2 := Lib.hid (belowG (hB.alloc hs1 _) hgrow (ownBlk HO.out) (by simp; omega))
        clear hown' hown2 hgrow hown0
        go_wp2
        go_roundw
        case rel => exact ⟨k + 1, k + 1, ls ++ [sg], by go_num, by go_num, by omega, Nat.le_refl _, by rw [List.length_append]; show _ + 1 ≤ _; omega, HC2, HO2.out, HB2.out⟩
        case measure => first | (simp [intOf]; omega) | (simp [intOf]; done)
      · have hcb : ((s[k].toNat : Int) == 10) = false := by
          rw [beq_eq_false_iff_ne]
          intro h
          exact hc (UInt8.toNat_inj.1 (by show s[k].toNat = 10; omega))
        have HC2 := Lib.hid (show cutL (s.data.toList.take (k + 1)) = (ls, (s.data.toList.take (k + 1)).drop a) from by
          rw [HTK.out, cutL_snoc hc, HC.out, List.drop_append_of_le_length (by rw [HTL.out]; exact hak)])
        clear hc hown0
        go_wp2
        go_roundw
        case rel => exact ⟨k + 1, a, ls, by go_num, rfl, by omega, by omega, by omega, HC2, HO.out, hB⟩
        case measure => first | (simp [intOf]; omega) | (simp [intOf]; done)
    · obtain rfl : k = s.size := by omega
      have hka : ¬ (s.size : Int) < (s.size : Int) := by omega
      have hcut := HC.out
      rw [List.take_of_length_le (by rw [HSL.out]; exact Nat.le_refl _)] at hcut
      obtain ⟨A, cap, rfl, hcells⟩ := lines_at hown
      have HL := Lib.hid hcells
      have HBA := Lib.hid hB
      have HE1 := Lib.hid (show asmR s.data.toList = (match passR ls [] 0 0 with
        | .error i => ([], i, 31)
        | .ok ps => if s.data.toList.drop a ≠ [] then ([], (ls.length : Int) + 1, 31) else match wordsR ps ls [] 0 with
          | .error i => ([], i, 31)
          | .ok out => (out, 0, 0)) from by unfold asmR; rw [hcut]; rfl)
      have hmem : ∀ x ∈ ls, x.length ≤ 1000000 := fun x hx => by
        have := cutL_mem (s := s.data.toList) (l := x) (by rw [hcut]; exact hx)
        have e : s.data.toList.length = s.size := rfl
        omega
      have HMEM := Lib.hid hmem
      have HAT := Lib.hid (show (s.data.toList.drop a ≠ [] ↔ a < s.size) from by
        rw [ne_eq, List.drop_eq_nil_iff]
        have e : s.data.toList.length = s.size := rfl
        omega)
      rename World => wA
      obtain ⟨P1, hP1⟩ : ∃ P1, passR ls [] 0 0 = P1 := ⟨_, rfl⟩
      rw [hP1] at HE1
      have HPF : Hid (passR ls [] 0 0 = P1) := hP1
      have HP0 : Hid (passR (ls.drop 0) [] ((0 : Nat) : Int) ((0 : Nat) : Int) = P1) := hP1
      clear hP1 hmem hcells hown hcut HC hs1 hB
      go_wp2
      go_loopw [8, 9, 10] (fun v x i wr => ∃ (k m : Nat) (ps : List (List UInt8 × Int)), i = .int .i64 (k : Int) ∧ x = .int .i64 (m : Int) ∧ k ≤ ls.length ∧ m ≤ 512 ∧ ps.length ≤ k ∧ Hid (passR (ls.drop k) ps (m : Int) (k : Int) = P1) ∧ Hid (PlIn ps) ∧ OwnPl wr wA.heap.size v ps ∧ Below wA.heap.size wA wr) (fun _ _ i _ => ls.length - (intOf i).toNat)
      case atStart => exact ⟨0, 0, [], rfl, rfl, Nat.zero_le _, Nat.zero_le _, Nat.le_refl _, HP0, fun p hp => (by cases hp), World.ownsRow_nil _ _ _ _, Below.refl _ _⟩
      case round =>
        obtain ⟨k, m, ps, rfl, rfl, hk2, hm5, hpk, HP, HIN, hown, hB2⟩ := hrel
        clear HP0
        have hs2 := hB2.size
        have HO := Lib.hid hown
        have HB2 := Lib.hid hB2
        have HBW := Lib.hid (bl_step HBA.out hB2)
        by_cases hkl : k < ls.length
        · have hka : (k : Int) < (ls.length : Int) := by omega
          have hk0 : (0 : Int) ≤ (k : Int) := by omega
          have hxe : ls[k]? = some ls[k] := List.getElem?_eq_getElem hkl
          have hd := List.drop_eq_getElem_cons hkl
          have hmz := HMEM.out ls[k] (List.getElem_mem _)
          obtain ⟨lx, hlx⟩ : ∃ lx, ls[k] = lx := ⟨_, rfl⟩
          rw [hlx] at hxe hd hmz
          obtain ⟨b, rfl, c0⟩ := HL.out _ hB2 k lx hxe
          obtain ⟨l, hl⟩ : ∃ l : ByteArray, (⟨lx.toArray⟩ : ByteArray) = l := ⟨_, rfl⟩
          have hld : lx = l.data.toList := by rw [← hl]
          rw [hl] at c0
          have hlz : l.size ≤ 1000000 := by rw [← hl]; show lx.toArray.size ≤ _; rw [List.size_toArray]; exact hmz
          have HPE := Lib.hid (show (match cutSuf 58 l.data.toList with
            | some nm => if nameB nm = true ∧ findP ps nm < 0 then passR (ls.drop (k + 1)) (ps ++ [(nm, (m : Int))]) (m : Int) ((k : Int) + 1) else .error ((k : Int) + 1)
            | none => if okR l.data.toList = true ∧ (m : Int) ≠ 512 then passR (ls.drop (k + 1)) ps ((m : Int) + 1) ((k : Int) + 1) else .error ((k : Int) + 1)) = P1 from by
            have h := HP.out
            rw [hd, hld, passR] at h
            exact h)
          clear hxe hd hmz hlx hl hld HP
          have hlsz : ls.length ≤ 1000000 := by omega
          obtain ⟨Ap, cp, rfl, hrows⟩ := pl_rows hown
          clear hown
          by_cases hz : l.size = 0
          · have hl0 : l = (⟨#[]⟩ : ByteArray) := bytes_eq (List.eq_nil_of_length_eq_zero hz)
            have hcu := cut_empty hz
            have hz1 : ¬ (0 : Int) < (l.size : Int) := by omega
            have h5i : ¬ (5 : Int) < (l.size : Int) := by omega
            rw [hcu] at HPE
            dsimp only at HPE
            have HTK := Lib.hid (fun W => refTake_any hM (w := W) l hlz)
            have hqi : (namedT (pieces l.data.toList)).is = false := by rw [hl0]; decide +kernel
            have HOK := Lib.hid (show okR l.data.toList = false from by rw [hl0]; decide +kernel)
            have HEQ := Lib.hid (show asmR s.data.toList = ([], (k : Int) + 1, 31) from by rw [HE1.out, ← HPE.out, if_neg (fun e => by rw [HOK.out] at e; cases e.1)])
            clear hl0 hcu HPE HE1 HOK
            go_wp2_with fail
            refine (HTK.out _).mono ?_
            rintro e W3 ⟨⟨xo, xa, xb, xm⟩, lab, rfl, hx, hb3⟩
            rw [show (Ins.cells ⟨xo, xa, xb, xm⟩).toArray = #[.int .i64 xo, .int .i64 xa, .int .i64 xb, .int .i64 xm] from rfl]
            rw [hqi]
            have HB3 := Lib.hid (bl_new (bl_step HB2.out hb3) (.cells #[.int .i64 xo, .int .i64 xa, .int .i64 xb, .int .i64 xm] 86))
            have HW3 := Lib.hid (bl_step HBA.out HB3.out)
            clear hb3 hx HTK HO HB2 HBW hqi c0 hrows
            go_wp2
            refine bodyPost_ret (results_tmp3 rfl _ _ _) rfl ?_
            rw [← HPOST.out]
            exact asm_err HEQ.out rfl HW3.out
          · obtain ⟨q, hq⟩ : ∃ q, l.size = q + 1 := ⟨l.size - 1, by omega⟩
            have hz1 : (0 : Int) < (l.size : Int) := by omega
            have hq1 : (l.size : Int) - 1 = (q : Int) := by omega
            have hq0 : (0 : Int) ≤ (q : Int) := by omega
            have hq2 : (q : Int) < (l.size : Int) := by omega
            have hq3 : (q : Int) ≤ (l.size : Int) := by omega
            by_cases hc : l[q]'(by omega) = 58
            · have hcb : (((l[q]'(by omega)).toNat : Int) == 58) = true := by rw [hc]; rfl
              have hcu := cut_yes hq hc
              obtain ⟨nm, hnm⟩ : ∃ nm, l.extract 0 q = nm := ⟨_, rfl⟩
              rw [hnm] at hcu
              rw [hcu] at HPE
              dsimp only at HPE
              have hnz : nm.size ≤ 1000000 := by rw [← hnm, ByteArray.size_extract]; omega
              have HLB := Lib.hid (fun W => refLabel_any (w := W) nm hnz)
              have HNM := Lib.hid hnm
              clear hcu hc
              obtain ⟨nb, hnb⟩ : ∃ nb, nameB nm.data.toList = nb := ⟨_, rfl⟩
              rw [hnb] at HLB HPE
              have HFD := Lib.hid (fun W (hW : RowsAt W Ap 2 (ps.map placeC)) => refFind_any (w := W) Ap cp ps (by omega) hW nm)
              have HRW := Lib.hid hrows
              clear hrows hnb
              cases nb
              · rw [if_neg (by simp)] at HPE
                have HEQ := Lib.hid (show asmR s.data.toList = ([], (k : Int) + 1, 31) from by rw [HE1.out, ← HPE.out])
                clear HPE HE1
                go_wp2_with fail
                refine (HLB.out _).mono ?_
                rintro e W3 ⟨rfl, rfl⟩
                go_wp2
                refine bodyPost_ret (results_tmp3 rfl _ _ _) rfl ?_
                rw [← HPOST.out]
                exact asm_err HEQ.out rfl HBW.out
              · obtain ⟨fp, hfp⟩ : ∃ fp, findP ps nm.data.toList = fp := ⟨_, rfl⟩
                rw [hfp] at HFD HPE
                clear hfp
                by_cases hf : fp < 0
                · have hf1 : ¬ 0 ≤ fp := by omega
                  rw [if_pos ⟨rfl, hf⟩] at HPE
                  have HP2 := Lib.hid (show passR (ls.drop (k + 1)) (ps ++ [(nm.data.toList, (m : Int))]) (m : Int) ((k + 1 : Nat) : Int) = P1 from by
                    rw [show ((k + 1 : Nat) : Int) = (k : Int) + 1 from by omega]
                    exact HPE.out)
                  have HIN2 : Hid (PlIn (ps ++ [(nm.data.toList, (m : Int))])) := fun x hx => by
                    rcases List.mem_append.1 hx with hx | hx
                    · exact HIN.out x hx
                    · rw [List.mem_singleton.1 hx]; exact ⟨by show (0 : Int) ≤ (m : Int); omega, by show (m : Int) ≤ 512; omega⟩
                  have hown0 := HO.out
                  clear HPE HE1
                  go_wp2_with fail
                  refine (HLB.out _).mono ?_
                  rintro e W3 ⟨rfl, rfl⟩
                  go_wp2_with fail
                  refine (HFD.out _ HRW.out).mono ?_
                  rintro e W3' ⟨rfl, rfl⟩
                  clear HFD HLB
                  go_wp2_with (at_builtin; refine wpList_append_own _ rfl _ _ 107 rfl wA.heap.size 111 i1 _ 2 24 Tryz.underlying107 hi' hz0' hz1' hz2' rfl (by decide) _ _ _ rfl (hown0.alloc _) ⟨W3'.heap.size, 0, none⟩ 1 1 (placeC (nm.data.toList, (m : Int))) rfl rfl (cells_new _ _ _) (by simp [placeC, strV, Value.oneCell']) (by unfold maxLen; omega) (by omega) (by simp; omega) ?_; intro v' w1 hown' hgrow _)
                  have HO2 := Lib.hid (ownPl_snoc hown')
                  have HB3 := Lib.hid (belowG (HB2.out.alloc hs2 _) hgrow (ownBlk HO.out) (by simp; omega))
                  clear hown' hgrow hown0 HO HB2 HRW
                  go_wp2
                  go_roundw
                  case rel => exact ⟨k + 1, m, ps ++ [(nm.data.toList, (m : Int))], by go_num, rfl, by omega, hm5, by rw [List.length_append]; show _ + 1 ≤ _; omega, HP2, HIN2, HO2.out, HB3.out⟩
                  case measure => first | (simp [intOf]; omega) | (simp [intOf]; done)
                · have hf1 : 0 ≤ fp := by omega
                  rw [if_neg (fun e => hf e.2)] at HPE
                  have HEQ := Lib.hid (show asmR s.data.toList = ([], (k : Int) + 1, 31) from by rw [HE1.out, ← HPE.out])
                  clear HPE HE1
                  go_wp2_with fail
                  refine (HLB.out _).mono ?_
                  rintro e W3 ⟨rfl, rfl⟩
                  go_wp2_with fail
                  refine (HFD.out _ HRW.out).mono ?_
                  rintro e W3' ⟨rfl, rfl⟩
                  go_wp2
                  refine bodyPost_ret (results_tmp3 rfl _ _ _) rfl ?_
                  rw [← HPOST.out]
                  exact asm_err HEQ.out rfl HBW.out
            · have hcb : (((l[q]'(by omega)).toNat : Int) == 58) = false := by
                rw [beq_eq_false_iff_ne]
                intro h
                exact hc (UInt8.toNat_inj.1 (by show (l[q]'(by omega)).toNat = 58; omega))
              have hcu := cut_not hq hc
              clear hc
              rw [hcu] at HPE
              dsimp only at HPE
              clear hcu
              have HTK := Lib.hid (fun W => refTake_any hM (w := W) l hlz)
              obtain ⟨qi, hqi⟩ : ∃ qi, (namedT (pieces l.data.toList)).is = qi := ⟨_, rfl⟩
              have HIS := Lib.hid hqi
              go_wp2_with fail
              refine (HTK.out _).mono ?_
              rintro e W3 ⟨⟨xo, xa, xb, xm⟩, lab, rfl, hx, hb3⟩
              rw [show (Ins.cells ⟨xo, xa, xb, xm⟩).toArray = #[.int .i64 xo, .int .i64 xa, .int .i64 xb, .int .i64 xm] from rfl]
              rw [hqi]
              have HO3 := Lib.hid (ownBelowI (ownBelowI HO.out hb3) ((Below.refl _ _).alloc (Nat.le_refl _) (.cells #[.int .i64 xo, .int .i64 xa, .int .i64 xb, .int .i64 xm] 86)))
              have HB3 := Lib.hid (bl_new (bl_step HB2.out hb3) (.cells #[.int .i64 xo, .int .i64 xa, .int .i64 xb, .int .i64 xm] 86))
              have HW3 := Lib.hid (bl_step HBA.out HB3.out)
              clear hb3 hx HTK HO HB2 HBW hqi c0 hrows
              by_cases h5 : 5 < l.size
              · have h5i : (5 : Int) < (l.size : Int) := by omega
                have h5j : (5 : Int) ≤ (l.size : Int) := by omega
                by_cases hw : l.extract 0 5 = (⟨#[119, 111, 114, 100, 32]⟩ : ByteArray)
                · have hwb := seq_true hw
                  have hwb2 : ((l.extract 0 5).toList == [119, 111, 114, 100, 32]) = true := by rw [Lib.toList_data, hw]; rfl
                  have hiw : isWordR l.data.toList = true := by
                    unfold isWordR
                    rw [← ext_takeR, hw]
                    rw [decide_eq_true (show 5 < l.data.toList.length from h5)]
                    rfl
                  have hnz : (l.extract 5 l.size).size ≤ 1000000 := by rw [ByteArray.size_extract]; omega
                  have HNU := Lib.hid (fun W => refNumber_any (w := W) (l.extract 5 l.size) hnz)
                  rw [ext_dropR] at HNU
                  rw [hq] at HNU
                  have hok : okR l.data.toList = (numB (l.data.toList.drop 5) && (decide (0 ≤ numN (l.data.toList.drop 5)) && decide (numN (l.data.toList.drop 5) < 4294967296))) := by unfold okR; rw [if_pos hiw]
                  have hnr := numN_range (l.data.toList.drop 5)
                  obtain ⟨nv, hnv⟩ : ∃ nv, numN (l.data.toList.drop 5) = nv := ⟨_, rfl⟩
                  obtain ⟨nb, hnb⟩ : ∃ nb, numB (l.data.toList.drop 5) = nb := ⟨_, rfl⟩
                  rw [hnv, hnb] at HNU hok
                  rw [hnv] at hnr
                  have HK := Lib.hid hok
                  clear hw hiw hnz hnv hnb hok HIS
                  go_wp2_with fail
                  refine (HNU.out _).mono ?_
                  rintro e W4 ⟨rfl, hb4⟩
                  have HO4 := Lib.hid (ownBelowI HO3.out hb4)
                  have HB4 := Lib.hid (bl_step HB3.out hb4)
                  have HW4 := Lib.hid (bl_step HBA.out HB4.out)
                  clear hb4 HO3 HB3 HW3 HNU
                  cases nb
                  · have HOK := Lib.hid (show okR l.data.toList = false from HK.out)
                    clear HK
                    have HEQ := Lib.hid (show asmR s.data.toList = ([], (k : Int) + 1, 31) from by rw [HE1.out, ← HPE.out, if_neg (fun e => by rw [HOK.out] at e; cases e.1)])
                    clear HPE HE1 HOK
                    go_wp2
                    refine bodyPost_ret (results_tmp3 rfl _ _ _) rfl ?_
                    rw [← HPOST.out]
                    exact asm_err HEQ.out rfl HW4.out
                  · by_cases n0 : 0 ≤ nv
                    · by_cases n1 : nv < 4294967296
                      · have HOK := Lib.hid (show okR l.data.toList = true from by rw [HK.out]; simp [n0, n1])
                        clear HK
                        by_cases hm : m = 512
                        · have hm1 : (m : Int) = 512 := by omega
                          have HEQ := Lib.hid (show asmR s.data.toList = ([], (k : Int) + 1, 31) from by rw [HE1.out, ← HPE.out, if_neg (fun e => e.2 hm1)])
                          clear HPE HE1 HOK
                          go_wp2
                          refine bodyPost_ret (results_tmp3 rfl _ _ _) rfl ?_
                          rw [← HPOST.out]
                          exact asm_err HEQ.out rfl HW4.out
                        · have hm1 : ¬ (m : Int) = 512 := by omega
                          have HP2 := Lib.hid (show passR (ls.drop (k + 1)) ps ((m + 1 : Nat) : Int) ((k + 1 : Nat) : Int) = P1 from by
                            rw [show ((m + 1 : Nat) : Int) = (m : Int) + 1 from by omega, show ((k + 1 : Nat) : Int) = (k : Int) + 1 from by omega]
                            have h := HPE.out
                            rw [if_pos ⟨HOK.out, hm1⟩] at h
                            exact h)
                          clear HPE HE1 HOK
                          go_wp2
                          go_roundw
                          case rel => exact ⟨k + 1, m + 1, ps, by go_num, by go_num, by omega, by omega, by omega, HP2, HIN, HO4.out, HB4.out⟩
                          case measure => first | (simp [intOf]; omega) | (simp [intOf]; done)
                      · have HOK := Lib.hid (show okR l.data.toList = false from by rw [HK.out]; simp [n1])
                        clear HK
                        have HEQ := Lib.hid (show asmR s.data.toList = ([], (k : Int) + 1, 31) from by rw [HE1.out, ← HPE.out, if_neg (fun e => by rw [HOK.out] at e; cases e.1)])
                        clear HPE HE1 HOK
                        go_wp2
                        refine bodyPost_ret (results_tmp3 rfl _ _ _) rfl ?_
                        rw [← HPOST.out]
                        exact asm_err HEQ.out rfl HW4.out
                    · have HOK := Lib.hid (show okR l.data.toList = false from by rw [HK.out]; simp [n0])
                      clear HK
                      have HEQ := Lib.hid (show asmR s.data.toList = ([], (k : Int) + 1, 31) from by rw [HE1.out, ← HPE.out, if_neg (fun e => by rw [HOK.out] at e; cases e.1)])
                      clear HPE HE1 HOK
                      go_wp2
                      refine bodyPost_ret (results_tmp3 rfl _ _ _) rfl ?_
                      rw [← HPOST.out]
                      exact asm_err HEQ.out rfl HW4.out
                · have hwb := seq_false hw
                  have hwb2 : ((l.extract 0 5).toList == [119, 111, 114, 100, 32]) = false := by rw [Lib.toList_data, beq_eq_false_iff_ne]; exact fun e => hw (bytes_eq e)
                  have hiw : isWordR l.data.toList = false := by
                    unfold isWordR
                    rw [← ext_takeR, decide_eq_false (show ¬ (l.extract 0 5).data.toList = wordP from fun e => hw (bytes_eq e)), Bool.and_false]
                  clear hw
                  have hok : okR l.data.toList = qi := by unfold okR; rw [hiw, if_neg (by decide)]; exact HIS.out
                  have HK := Lib.hid hok
                  clear hok hiw HIS
                  cases qi
                  · have HOK := Lib.hid (show okR l.data.toList = false from HK.out)
                    clear HK
                    have HEQ := Lib.hid (show asmR s.data.toList = ([], (k : Int) + 1, 31) from by rw [HE1.out, ← HPE.out, if_neg (fun e => by rw [HOK.out] at e; cases e.1)])
                    clear HPE HE1 HOK
                    go_wp2
                    refine bodyPost_ret (results_tmp3 rfl _ _ _) rfl ?_
                    rw [← HPOST.out]
                    exact asm_err HEQ.out rfl HW3.out
                  · have HOK := Lib.hid (show okR l.data.toList = true from HK.out)
                    clear HK
                    by_cases hm : m = 512
                    · have hm1 : (m : Int) = 512 := by omega
                      have HEQ := Lib.hid (show asmR s.data.toList = ([], (k : Int) + 1, 31) from by rw [HE1.out, ← HPE.out, if_neg (fun e => e.2 hm1)])
                      clear HPE HE1 HOK
                      go_wp2
                      refine bodyPost_ret (results_tmp3 rfl _ _ _) rfl ?_
                      rw [← HPOST.out]
                      exact asm_err HEQ.out rfl HW3.out
                    · have hm1 : ¬ (m : Int) = 512 := by omega
                      have HP2 := Lib.hid (show passR (ls.drop (k + 1)) ps ((m + 1 : Nat) : Int) ((k + 1 : Nat) : Int) = P1 from by
                        rw [show ((m + 1 : Nat) : Int) = (m : Int) + 1 from by omega, show ((k + 1 : Nat) : Int) = (k : Int) + 1 from by omega]
                        have h := HPE.out
                        rw [if_pos ⟨HOK.out, hm1⟩] at h
                        exact h)
                      clear HPE HE1 HOK
                      go_wp2
                      go_roundw
                      case rel => exact ⟨k + 1, m + 1, ps, by go_num, by go_num, by omega, by omega, by omega, HP2, HIN, HO3.out, HB3.out⟩
                      case measure => first | (simp [intOf]; omega) | (simp [intOf]; done)
              · have h5i : ¬ (5 : Int) < (l.size : Int) := by omega
                have hiw : isWordR l.data.toList = false := by
                  unfold isWordR
                  rw [decide_eq_false (show ¬ 5 < l.data.toList.length from h5), Bool.false_and]
                have hok : okR l.data.toList = qi := by unfold okR; rw [hiw, if_neg (by decide)]; exact HIS.out
                have HK := Lib.hid hok
                clear hok hiw HIS
                cases qi
                · have HOK := Lib.hid (show okR l.data.toList = false from HK.out)
                  clear HK
                  have HEQ := Lib.hid (show asmR s.data.toList = ([], (k : Int) + 1, 31) from by rw [HE1.out, ← HPE.out, if_neg (fun e => by rw [HOK.out] at e; cases e.1)])
                  clear HPE HE1 HOK
                  go_wp2
                  refine bodyPost_ret (results_tmp3 rfl _ _ _) rfl ?_
                  rw [← HPOST.out]
                  exact asm_err HEQ.out rfl HW3.out
                · have HOK := Lib.hid (show okR l.data.toList = true from HK.out)
                  clear HK
                  by_cases hm : m = 512
                  · have hm1 : (m : Int) = 512 := by omega
                    have HEQ := Lib.hid (show asmR s.data.toList = ([], (k : Int) + 1, 31) from by rw [HE1.out, ← HPE.out, if_neg (fun e => e.2 hm1)])
                    clear HPE HE1 HOK
                    go_wp2
                    refine bodyPost_ret (results_tmp3 rfl _ _ _) rfl ?_
                    rw [← HPOST.out]
                    exact asm_err HEQ.out rfl HW3.out
                  · have hm1 : ¬ (m : Int) = 512 := by omega
                    have HP2 := Lib.hid (show passR (ls.drop (k + 1)) ps ((m + 1 : Nat) : Int) ((k + 1 : Nat) : Int) = P1 from by
                      rw [show ((m + 1 : Nat) : Int) = (m : Int) + 1 from by omega, show ((k + 1 : Nat) : Int) = (k : Int) + 1 from by omega]
                      have h := HPE.out
                      rw [if_pos ⟨HOK.out, hm1⟩] at h
                      exact h)
                    clear HPE HE1 HOK
                    go_wp2
                    go_roundw
                    case rel => exact ⟨k + 1, m + 1, ps, by go_num, by go_num, by omega, by omega, by omega, HP2, HIN, HO3.out, HB3.out⟩
                    case measure => first | (simp [intOf]; omega) | (simp [intOf]; done)
        · obtain rfl : k = ls.length := by omega
          have hka : ¬ (ls.length : Int) < (ls.length : Int) := by omega
          have hP := HP.out
          rw [List.drop_of_length_le (Nat.le_refl _), passR] at hP
          have hPF := HPF.out
          rw [← hP] at hPF
          have HOKS := Lib.hid (((pass_run ls ⟨[], [], []⟩ [] 0 [] labs_nil (Nat.zero_le _)).2 ps hPF).elim fun _ h => h.2.2.1)
          have HE2 := Lib.hid (show asmR s.data.toList = (if s.data.toList.drop a ≠ [] then (([], (ls.length : Int) + 1, 31) : List Int × Int × Int) else match wordsR ps ls [] 0 with
            | .error i => (([], i, 31) : List Int × Int × Int)
            | .ok out => (out, 0, 0)) from by rw [HE1.out, ← hP])
          have HOP0 := HO.out
          obtain ⟨Ap, cp, rfl, hrows⟩ := pl_rows hown
          have HOP : Hid (OwnPl wr wA.heap.size (.slice Ap ps.length cp) ps) := HOP0
          clear hP hPF HPF HE1 HP hown HO HOP0 hrows hB2
          by_cases ha : a < s.size
          · have hai : (a : Int) < (s.size : Int) := by omega
            have HEQ := Lib.hid (show asmR s.data.toList = ([], (ls.length : Int) + 1, 31) from by rw [HE2.out, if_pos (HAT.out.2 ha)])
            go_wp2
            refine bodyPost_ret (results_tmp3 rfl _ _ _) rfl ?_
            rw [← HPOST.out]
            exact asm_err HEQ.out rfl HBW.out
          · have hai : ¬ (a : Int) < (s.size : Int) := by omega
            have HE3 := Lib.hid (show asmR s.data.toList = (match wordsR ps ls [] 0 with | .error i => (([], i, 31) : List Int × Int × Int) | .ok out => (out, 0, 0)) from by rw [HE2.out, if_neg (fun e => ha (HAT.out.1 e))])
            obtain ⟨P2, hP2⟩ : ∃ P2, wordsR ps ls [] 0 = P2 := ⟨_, rfl⟩
            rw [hP2] at HE3
            have HQ0 : Hid (wordsR ps (ls.drop 0) [] ((0 : Nat) : Int) = P2) := hP2
            clear hP2 HE2 HAT
            rename World => wB
            go_wp2
            go_loopw [20, 21] (fun v i wr => ∃ (k : Nat) (out : List Int), i = .int .i64 (k : Int) ∧ k ≤ ls.length ∧ out.length ≤ k ∧ Hid (wordsR ps (ls.drop k) out (k : Int) = P2) ∧ OwnU3 wr wB.heap.size v out ∧ Below wB.heap.size wB wr) (fun _ i _ => ls.length - (intOf i).toNat)
            case atStart => exact ⟨0, [], rfl, Nat.zero_le _, Nat.le_refl _, HQ0, World.ownsRow_nil _ _ _ _, Below.refl _ _⟩
            case round =>
              obtain ⟨k, out, rfl, hk3, hok3, HP, hown3, hB3⟩ := hrel
              clear HQ0
              have hsB3 := hB3.size
              obtain ⟨Ao, co, rfl⟩ := own_slice hown3
              have HO := Lib.hid hown3
              have HB3 := Lib.hid hB3
              have HBA2 := Lib.hid HBW.out
              have HBX := Lib.hid (bl_step HBW.out hB3)
              by_cases hkl : k < ls.length
              · have hka : (k : Int) < (ls.length : Int) := by omega
                have hk0 : (0 : Int) ≤ (k : Int) := by omega
                have hxe : ls[k]? = some ls[k] := List.getElem?_eq_getElem hkl
                have hd := List.drop_eq_getElem_cons hkl
                have hmz := HMEM.out ls[k] (List.getElem_mem _)
                have hoks := HOKS.out ls[k] (List.getElem_mem _)
                obtain ⟨lx, hlx⟩ : ∃ lx, ls[k] = lx := ⟨_, rfl⟩
                rw [hlx] at hxe hd hmz hoks
                obtain ⟨b, rfl, c0⟩ := HL.out _ (bl_step HB2.out hB3) k lx hxe
                obtain ⟨l, hl⟩ : ∃ l : ByteArray, (⟨lx.toArray⟩ : ByteArray) = l := ⟨_, rfl⟩
                have hld : lx = l.data.toList := by rw [← hl]
                rw [hl] at c0
                have hlz : l.size ≤ 1000000 := by rw [← hl]; show lx.toArray.size ≤ _; rw [List.size_toArray]; exact hmz
                have HPE := Lib.hid (show (match cutSuf 58 l.data.toList with
                  | some _ => wordsR ps (ls.drop (k + 1)) out ((k : Int) + 1)
                  | none =>
                    if isWordR l.data.toList = true then wordsR ps (ls.drop (k + 1)) (out ++ [numN (l.data.toList.drop 5) % 4294967296]) ((k : Int) + 1)
                    else if (namedT (pieces l.data.toList)).lab = [] then wordsR ps (ls.drop (k + 1)) (out ++ [encW (namedT (pieces l.data.toList)).x]) ((k : Int) + 1)
                    else if findP ps (namedT (pieces l.data.toList)).lab < 0 then .error ((k : Int) + 1)
                    else wordsR ps (ls.drop (k + 1)) (out ++ [encW { (namedT (pieces l.data.toList)).x with imm := findP ps (namedT (pieces l.data.toList)).lab - (out.length : Int) - 1 }]) ((k : Int) + 1)) = P2 from by
                  have h := HP.out
                  rw [hd, hld, wordsR] at h
                  exact h)
                rw [hld] at hoks
                clear hxe hd hmz hlx hl hld HP hown3 hB3
                have hlsz : ls.length ≤ 1000000 := by omega
                by_cases hz : l.size = 0
                · have hl0 : l = (⟨#[]⟩ : ByteArray) := bytes_eq (List.eq_nil_of_length_eq_zero hz)
                  have hok0 : okR l.data.toList = false := by rw [hl0]; decide +kernel
                  have := hoks (cut_empty hz)
                  rw [hok0] at this
                  cases this
                · obtain ⟨q, hq⟩ : ∃ q, l.size = q + 1 := ⟨l.size - 1, by omega⟩
                  have hz1 : (0 : Int) < (l.size : Int) := by omega
                  have hq1 : (l.size : Int) - 1 = (q : Int) := by omega
                  have hq0 : (0 : Int) ≤ (q : Int) := by omega
                  have hq2 : (q : Int) < (l.size : Int) := by omega
                  have hq3 : (q : Int) ≤ (l.size : Int) := by omega
                  by_cases hc : l[q]'(by omega) = 58
                  · have hcb : (((l[q]'(by omega)).toNat : Int) == 58) = true := by rw [hc]; rfl
                    have hcu := cut_yes hq hc
                    rw [hcu] at HPE
                    dsimp only at HPE
                    have HP2 := Lib.hid (show wordsR ps (ls.drop (k + 1)) out ((k + 1 : Nat) : Int) = P2 from by
                      rw [show ((k + 1 : Nat) : Int) = (k : Int) + 1 from by omega]
                      exact HPE.out)
                    clear hcu hc HPE hoks
                    go_wp2
                    go_roundw
                    case rel => exact ⟨k + 1, out, by go_num, by omega, by omega, HP2, HO.out, HB3.out⟩
                    case measure => first | (simp [intOf]; omega) | (simp [intOf]; done)
                  · have hcb : (((l[q]'(by omega)).toNat : Int) == 58) = false := by
                      rw [beq_eq_false_iff_ne]
                      intro h
                      exact hc (UInt8.toNat_inj.1 (by show (l[q]'(by omega)).toNat = 58; omega))
                    have hcu := cut_not hq hc
                    have HOK := Lib.hid (hoks hcu)
                    rw [hcu] at HPE
                    dsimp only at HPE
                    clear hcu hoks hc
                    by_cases h5 : 5 < l.size
                    · have h5i : (5 : Int) < (l.size : Int) := by omega
                      have h5j : (5 : Int) ≤ (l.size : Int) := by omega
                      by_cases hw : l.extract 0 5 = (⟨#[119, 111, 114, 100, 32]⟩ : ByteArray)
                      · have hwb := seq_true hw
                        have hwb2 : ((l.extract 0 5).toList == [119, 111, 114, 100, 32]) = true := by rw [Lib.toList_data, hw]; rfl
                        have hiw : isWordR l.data.toList = true := by
                          unfold isWordR
                          rw [← ext_takeR, hw]
                          rw [decide_eq_true (show 5 < l.data.toList.length from h5)]
                          rfl
                        have hnz : (l.extract 5 l.size).size ≤ 1000000 := by rw [ByteArray.size_extract]; omega
                        have HNU := Lib.hid (fun W => refNumber_any (w := W) (l.extract 5 l.size) hnz)
                        rw [ext_dropR] at HNU
                        rw [hq] at HNU
                        have hnr := numN_range (l.data.toList.drop 5)
                        have HP2 := Lib.hid (show wordsR ps (ls.drop (k + 1)) (out ++ [numN (l.data.toList.drop 5) % 4294967296]) ((k + 1 : Nat) : Int) = P2 from by
                          rw [show ((k + 1 : Nat) : Int) = (k : Int) + 1 from by omega]
                          have h := HPE.out
                          rw [if_pos hiw] at h
                          exact h)
                        obtain ⟨nv, hnv⟩ : ∃ nv, numN (l.data.toList.drop 5) = nv := ⟨_, rfl⟩
                        obtain ⟨nb, hnb⟩ : ∃ nb, numB (l.data.toList.drop 5) = nb := ⟨_, rfl⟩
                        rw [hnv, hnb] at HNU
                        rw [hnv] at hnr HP2
                        have hwr : IntKind.u32.wrap nv = nv % 4294967296 := by simp only [IntKind.wrap, IntKind.bits, IntKind.signed]; simp
                        clear hw hiw hnz hnv hnb HPE
                        go_wp2_with fail
                        refine (HNU.out _).mono ?_
                        rintro e W5 ⟨rfl, hb5⟩
                        have hsB := (bl_step HB3.out hb5).size
                        have hownE := ownBelowI HO.out hb5
                        go_wp2_with (at_builtin; refine wpList_append_own _ rfl _ _ 22 rfl wB.heap.size 41 i2 _ 1 4 Tryz.underlying22 hi'' hz0'' hz1'' hz2'' rfl (by decide) _ _ _ rfl (hownE.alloc _) ⟨W5.heap.size, 0, none⟩ 1 1 [.int .u32 (nv % 4294967296)] rfl rfl (cells_new _ _ _) (by simp [Value.oneCell']) (by unfold maxLen; omega) (by omega) (by simp; omega) ?_; intro v' w1 hown' hgrow _)
                        have HO2 := Lib.hid (ownU3_snoc hown')
                        have HBN := Lib.hid (belowG ((bl_step HB3.out hb5).alloc (hsB) _) hgrow (ownBlk hownE) (by simp; omega))
                        clear hown' hgrow hownE
                        go_wp2
                        go_roundw
                        case rel => exact ⟨k + 1, out ++ [nv % 4294967296], by go_num, by omega, by rw [List.length_append]; show _ + 1 ≤ _; omega, HP2, HO2.out, HBN.out⟩
                        case measure => first | (simp [intOf]; omega) | (simp [intOf]; done)
                      · have hwb := seq_false hw
                        have hwb2 : ((l.extract 0 5).toList == [119, 111, 114, 100, 32]) = false := by rw [Lib.toList_data, beq_eq_false_iff_ne]; exact fun e => hw (bytes_eq e)
                        have hiw : isWordR l.data.toList = false := by
                          unfold isWordR
                          rw [← ext_takeR, decide_eq_false (show ¬ (l.extract 0 5).data.toList = wordP from fun e => hw (bytes_eq e)), Bool.and_false]
                        clear hw
                        have HTK := Lib.hid (fun W => refTake_any hM (w := W) l hlz)
                        have HPE2 := Lib.hid (show (if (namedT (pieces l.data.toList)).lab = [] then wordsR ps (ls.drop (k + 1)) (out ++ [encW (namedT (pieces l.data.toList)).x]) ((k : Int) + 1) else if findP ps (namedT (pieces l.data.toList)).lab < 0 then .error ((k : Int) + 1) else wordsR ps (ls.drop (k + 1)) (out ++ [encW { (namedT (pieces l.data.toList)).x with imm := findP ps (namedT (pieces l.data.toList)).lab - (out.length : Int) - 1 }]) ((k : Int) + 1)) = P2 from by
                          have h := HPE.out
                          rw [if_neg (by rw [hiw]; decide)] at h
                          exact h)
                        have HIS := Lib.hid (show (namedT (pieces l.data.toList)).is = true from by
                          have h := HOK.out
                          unfold okR at h
                          rw [hiw, if_neg (by decide)] at h
                          exact h)
                        clear hiw HPE
                        go_wp2_with fail
                        refine (HTK.out _).mono ?_
                        rintro e W3 ⟨⟨xo, xa, xb, xm⟩, lab, rfl, hx, hb3⟩
                        obtain ⟨hx1, hx2⟩ := hx HIS.out
                        have hlb : (namedT (pieces l.data.toList)).lab = lab.data.toList := by rw [hx2]
                        rw [show (Ins.cells ⟨xo, xa, xb, xm⟩).toArray = #[.int .i64 xo, .int .i64 xa, .int .i64 xb, .int .i64 xm] from rfl]
                        rw [HIS.out]
                        rw [← hx1, hlb] at HPE2
                        clear hx hx1 hx2 hlb HTK HIS
                        have hsr3 := hb3.size
                        have hsr4 : wB.heap.size ≤ W3.heap.size := (bl_step HB3.out hb3).size
                        have HB3h := Lib.hid hb3
                        have HX3 := Lib.hid (Blk.new W3 86 #[.int .i64 xo, .int .i64 xa, .int .i64 xb, .int .i64 xm])
                        have HO3 := Lib.hid (ownBelowI (ownBelowI HO.out hb3) ((Below.refl _ _).alloc (Nat.le_refl _) (.cells #[.int .i64 xo, .int .i64 xa, .int .i64 xb, .int .i64 xm] 86)))
                        have HB4 := Lib.hid (bl_new (bl_step HB3.out hb3) (.cells #[.int .i64 xo, .int .i64 xa, .int .i64 xb, .int .i64 xm] 86))
                        have HRW4 := Lib.hid (pl_rows_at HOP.out HB4.out)
                        have HFD := Lib.hid (fun W (hW : RowsAt W Ap 2 (ps.map placeC)) => refFind_any (w := W) Ap cp ps (by omega) hW lab)
                        have HENC := Lib.hid (fun W m => refEncode_any hM (w := W) xo xa xb m)
                        have HB5 := Lib.hid (bl_step HBA2.out HB4.out)
                        obtain ⟨c0, c1, c2, c3, clt⟩ := ccells HX3.out
                        clear hb3
                        by_cases hlz0 : lab = (⟨#[]⟩ : ByteArray)
                        · have hsb := seq_true hlz0
                          have hsb2 : (lab.toList == []) = true := by rw [Lib.toList_data, hlz0]; rfl
                          have HP2 := Lib.hid (show wordsR ps (ls.drop (k + 1)) (out ++ [encW ⟨xo, xa, xb, xm⟩]) ((k + 1 : Nat) : Int) = P2 from by
                            rw [show ((k + 1 : Nat) : Int) = (k : Int) + 1 from by omega]
                            have h := HPE2.out
                            rw [if_pos (by rw [hlz0])] at h
                            exact h)
                          have HEN2 := Lib.hid (fun W => HENC.out W xm)
                          obtain ⟨ew, hew⟩ : ∃ ew, encW ⟨xo, xa, xb, xm⟩ = ew := ⟨_, rfl⟩
                          obtain ⟨er, her⟩ : ∃ er, errI ⟨xo, xa, xb, xm⟩ = er := ⟨_, rfl⟩
                          rw [hew] at HP2
                          rw [hew, her] at HEN2
                          clear hlz0 HPE2 HENC hew her
                          go_wp2_with fail
                          refine (HEN2.out _).mono ?_
                          rintro e W5 ⟨rfl, hb5⟩
                          have hsB := (bl_step HB4.out hb5).size
                          clear c0 c1 c2 c3 clt
                          have hownE := ownBelowI HO3.out hb5
                          go_wp2_with (at_builtin; refine wpList_append_own _ rfl _ _ 22 rfl wB.heap.size 41 i2 _ 1 4 Tryz.underlying22 hi'' hz0'' hz1'' hz2'' rfl (by decide) _ _ _ rfl (hownE.alloc _) ⟨W5.heap.size, 0, none⟩ 1 1 [.int .u32 (ew)] rfl rfl (cells_new _ _ _) (by simp [Value.oneCell']) (by unfold maxLen; omega) (by omega) (by simp; omega) ?_; intro v' w1 hown' hgrow _)
                          have HO2 := Lib.hid (ownU3_snoc hown')
                          have HBN := Lib.hid (belowG ((bl_step HB4.out hb5).alloc (hsB) _) hgrow (ownBlk hownE) (by simp; omega))
                          clear hown' hgrow hownE
                          go_wp2
                          go_roundw
                          case rel => exact ⟨k + 1, out ++ [ew], by go_num, by omega, by rw [List.length_append]; show _ + 1 ≤ _; omega, HP2, HO2.out, HBN.out⟩
                          case measure => first | (simp [intOf]; omega) | (simp [intOf]; done)
                        · have hsb := seq_false hlz0
                          have hsb2 : (lab.toList == []) = false := by rw [Lib.toList_data, beq_eq_false_iff_ne]; exact fun e => hlz0 (bytes_eq e)
                          have hln : ¬ lab.data.toList = [] := fun e => hlz0 (bytes_eq (by rw [e]))
                          obtain ⟨fp, hfp⟩ : ∃ fp, findP ps lab.data.toList = fp := ⟨_, rfl⟩
                          have hfr := find_in HIN.out lab.data.toList
                          rw [if_neg hln, hfp] at HPE2
                          rw [hfp] at HFD hfr
                          clear hfp hln hlz0
                          by_cases hf : fp < 0
                          · rw [if_pos hf] at HPE2
                            have HEQ := Lib.hid (show asmR s.data.toList = ([], (k : Int) + 1, 31) from by rw [HE3.out, ← HPE2.out])
                            clear HPE2 HE3
                            go_wp2_with fail
                            refine (HFD.out _ HRW4.out).mono ?_
                            rintro e W5 ⟨rfl, rfl⟩
                            go_wp2
                            refine bodyPost_ret (results_tmp3 rfl _ _ _) rfl ?_
                            rw [← HPOST.out]
                            exact asm_err HEQ.out rfl HB5.out
                          · rw [if_neg hf] at HPE2
                            have HP2 := Lib.hid (show wordsR ps (ls.drop (k + 1)) (out ++ [encW ⟨xo, xa, xb, fp - (out.length : Int) - 1⟩]) ((k + 1 : Nat) : Int) = P2 from by
                              rw [show ((k + 1 : Nat) : Int) = (k : Int) + 1 from by omega]
                              exact HPE2.out)
                            have v1 : wrap64 (fp - (out.length : Int)) = fp - (out.length : Int) := by simp only [wrap64]; omega
                            have v2 : wrap64 (fp - (out.length : Int) - 1) = fp - (out.length : Int) - 1 := by simp only [wrap64]; omega
                            have HEN2 := Lib.hid (fun W => HENC.out W (fp - (out.length : Int) - 1))
                            obtain ⟨ew, hew⟩ : ∃ ew, encW ⟨xo, xa, xb, fp - (out.length : Int) - 1⟩ = ew := ⟨_, rfl⟩
                            obtain ⟨er, her⟩ : ∃ er, errI ⟨xo, xa, xb, fp - (out.length : Int) - 1⟩ = er := ⟨_, rfl⟩
                            rw [hew] at HP2
                            rw [hew, her] at HEN2
                            clear HENC hew her
                            have HO6 := Lib.hid (ownBelowI HO.out (bl_new HB3h.out (.cells #[.int .i64 xo, .int .i64 xa, .int .i64 xb, .int .i64 (fp - (out.length : Int) - 1)] 86)))
                            have HB6 := Lib.hid (bl_new (bl_step HB3.out HB3h.out) (.cells #[.int .i64 xo, .int .i64 xa, .int .i64 xb, .int .i64 (fp - (out.length : Int) - 1)] 86))
                            have f0 := HX3.out.frozen 0
                            have f1 := HX3.out.frozen 1
                            have f2 := HX3.out.frozen 2
                            have f3 := HX3.out.frozen 3
                            clear HPE2
                            go_wp2_with fail
                            refine (HFD.out _ HRW4.out).mono ?_
                            rintro e W5 ⟨rfl, rfl⟩
                            go_wp2_with fail
                            refine (HEN2.out _).mono ?_
                            rintro e W5 ⟨rfl, hb5⟩
                            have hsB := (bl_step HB6.out hb5).size
                            clear c0 c1 c2 c3 clt f0 f1 f2 f3
                            have hownE := ownBelowI HO6.out hb5
                            go_wp2_with (at_builtin; refine wpList_append_own _ rfl _ _ 22 rfl wB.heap.size 41 i2 _ 1 4 Tryz.underlying22 hi'' hz0'' hz1'' hz2'' rfl (by decide) _ _ _ rfl (hownE.alloc _) ⟨W5.heap.size, 0, none⟩ 1 1 [.int .u32 (ew)] rfl rfl (cells_new _ _ _) (by simp [Value.oneCell']) (by unfold maxLen; omega) (by omega) (by simp; omega) ?_; intro v' w1 hown' hgrow _)
                            have HO2 := Lib.hid (ownU3_snoc hown')
                            have HBN := Lib.hid (belowG ((bl_step HB6.out hb5).alloc (hsB) _) hgrow (ownBlk hownE) (by simp; omega))
                            clear hown' hgrow hownE
                            go_wp2
                            go_roundw
                            case rel => exact ⟨k + 1, out ++ [ew], by go_num, by omega, by rw [List.length_append]; show _ + 1 ≤ _; omega, HP2, HO2.out, HBN.out⟩
                            case measure => first | (simp [intOf]; omega) | (simp [intOf]; done)
                    · have h5i : ¬ (5 : Int) < (l.size : Int) := by omega
                      have hiw : isWordR l.data.toList = false := by
                        unfold isWordR
                        rw [decide_eq_false (show ¬ 5 < l.data.toList.length from h5), Bool.false_and]
                      have HTK := Lib.hid (fun W => refTake_any hM (w := W) l hlz)
                      have HPE2 := Lib.hid (show (if (namedT (pieces l.data.toList)).lab = [] then wordsR ps (ls.drop (k + 1)) (out ++ [encW (namedT (pieces l.data.toList)).x]) ((k : Int) + 1) else if findP ps (namedT (pieces l.data.toList)).lab < 0 then .error ((k : Int) + 1) else wordsR ps (ls.drop (k + 1)) (out ++ [encW { (namedT (pieces l.data.toList)).x with imm := findP ps (namedT (pieces l.data.toList)).lab - (out.length : Int) - 1 }]) ((k : Int) + 1)) = P2 from by
                        have h := HPE.out
                        rw [if_neg (by rw [hiw]; decide)] at h
                        exact h)
                      have HIS := Lib.hid (show (namedT (pieces l.data.toList)).is = true from by
                        have h := HOK.out
                        unfold okR at h
                        rw [hiw, if_neg (by decide)] at h
                        exact h)
                      clear hiw HPE
                      go_wp2_with fail
                      refine (HTK.out _).mono ?_
                      rintro e W3 ⟨⟨xo, xa, xb, xm⟩, lab, rfl, hx, hb3⟩
                      obtain ⟨hx1, hx2⟩ := hx HIS.out
                      have hlb : (namedT (pieces l.data.toList)).lab = lab.data.toList := by rw [hx2]
                      rw [show (Ins.cells ⟨xo, xa, xb, xm⟩).toArray = #[.int .i64 xo, .int .i64 xa, .int .i64 xb, .int .i64 xm] from rfl]
                      rw [HIS.out]
                      rw [← hx1, hlb] at HPE2
                      clear hx hx1 hx2 hlb HTK HIS
                      have hsr3 := hb3.size
                      have hsr4 : wB.heap.size ≤ W3.heap.size := (bl_step HB3.out hb3).size
                      have HB3h := Lib.hid hb3
                      have HX3 := Lib.hid (Blk.new W3 86 #[.int .i64 xo, .int .i64 xa, .int .i64 xb, .int .i64 xm])
                      have HO3 := Lib.hid (ownBelowI (ownBelowI HO.out hb3) ((Below.refl _ _).alloc (Nat.le_refl _) (.cells #[.int .i64 xo, .int .i64 xa, .int .i64 xb, .int .i64 xm] 86)))
                      have HB4 := Lib.hid (bl_new (bl_step HB3.out hb3) (.cells #[.int .i64 xo, .int .i64 xa, .int .i64 xb, .int .i64 xm] 86))
                      have HRW4 := Lib.hid (pl_rows_at HOP.out HB4.out)
                      have HFD := Lib.hid (fun W (hW : RowsAt W Ap 2 (ps.map placeC)) => refFind_any (w := W) Ap cp ps (by omega) hW lab)
                      have HENC := Lib.hid (fun W m => refEncode_any hM (w := W) xo xa xb m)
                      have HB5 := Lib.hid (bl_step HBA2.out HB4.out)
                      obtain ⟨c0, c1, c2, c3, clt⟩ := ccells HX3.out
                      clear hb3
                      by_cases hlz0 : lab = (⟨#[]⟩ : ByteArray)
                      · have hsb := seq_true hlz0
                        have hsb2 : (lab.toList == []) = true := by rw [Lib.toList_data, hlz0]; rfl
                        have HP2 := Lib.hid (show wordsR ps (ls.drop (k + 1)) (out ++ [encW ⟨xo, xa, xb, xm⟩]) ((k + 1 : Nat) : Int) = P2 from by
                          rw [show ((k + 1 : Nat) : Int) = (k : Int) + 1 from by omega]
                          have h := HPE2.out
                          rw [if_pos (by rw [hlz0])] at h
                          exact h)
                        have HEN2 := Lib.hid (fun W => HENC.out W xm)
                        obtain ⟨ew, hew⟩ : ∃ ew, encW ⟨xo, xa, xb, xm⟩ = ew := ⟨_, rfl⟩
                        obtain ⟨er, her⟩ : ∃ er, errI ⟨xo, xa, xb, xm⟩ = er := ⟨_, rfl⟩
                        rw [hew] at HP2
                        rw [hew, her] at HEN2
                        clear hlz0 HPE2 HENC hew her
                        go_wp2_with fail
                        refine (HEN2.out _).mono ?_
                        rintro e W5 ⟨rfl, hb5⟩
                        have hsB := (bl_step HB4.out hb5).size
                        clear c0 c1 c2 c3 clt
                        have hownE := ownBelowI HO3.out hb5
                        go_wp2_with (at_builtin; refine wpList_append_own _ rfl _ _ 22 rfl wB.heap.size 41 i2 _ 1 4 Tryz.underlying22 hi'' hz0'' hz1'' hz2'' rfl (by decide) _ _ _ rfl (hownE.alloc _) ⟨W5.heap.size, 0, none⟩ 1 1 [.int .u32 (ew)] rfl rfl (cells_new _ _ _) (by simp [Value.oneCell']) (by unfold maxLen; omega) (by omega) (by simp; omega) ?_; intro v' w1 hown' hgrow _)
                        have HO2 := Lib.hid (ownU3_snoc hown')
                        have HBN := Lib.hid (belowG ((bl_step HB4.out hb5).alloc (hsB) _) hgrow (ownBlk hownE) (by simp; omega))
                        clear hown' hgrow hownE
                        go_wp2
                        go_roundw
                        case rel => exact ⟨k + 1, out ++ [ew], by go_num, by omega, by rw [List.length_append]; show _ + 1 ≤ _; omega, HP2, HO2.out, HBN.out⟩
                        case measure => first | (simp [intOf]; omega) | (simp [intOf]; done)
                      · have hsb := seq_false hlz0
                        have hsb2 : (lab.toList == []) = false := by rw [Lib.toList_data, beq_eq_false_iff_ne]; exact fun e => hlz0 (bytes_eq e)
                        have hln : ¬ lab.data.toList = [] := fun e => hlz0 (bytes_eq (by rw [e]))
                        obtain ⟨fp, hfp⟩ : ∃ fp, findP ps lab.data.toList = fp := ⟨_, rfl⟩
                        have hfr := find_in HIN.out lab.data.toList
                        rw [if_neg hln, hfp] at HPE2
                        rw [hfp] at HFD hfr
                        clear hfp hln hlz0
                        by_cases hf : fp < 0
                        · rw [if_pos hf] at HPE2
                          have HEQ := Lib.hid (show asmR s.data.toList = ([], (k : Int) + 1, 31) from by rw [HE3.out, ← HPE2.out])
                          clear HPE2 HE3
                          go_wp2_with fail
                          refine (HFD.out _ HRW4.out).mono ?_
                          rintro e W5 ⟨rfl, rfl⟩
                          go_wp2
                          refine bodyPost_ret (results_tmp3 rfl _ _ _) rfl ?_
                          rw [← HPOST.out]
                          exact asm_err HEQ.out rfl HB5.out
                        · rw [if_neg hf] at HPE2
                          have HP2 := Lib.hid (show wordsR ps (ls.drop (k + 1)) (out ++ [encW ⟨xo, xa, xb, fp - (out.length : Int) - 1⟩]) ((k + 1 : Nat) : Int) = P2 from by
                            rw [show ((k + 1 : Nat) : Int) = (k : Int) + 1 from by omega]
                            exact HPE2.out)
                          have v1 : wrap64 (fp - (out.length : Int)) = fp - (out.length : Int) := by simp only [wrap64]; omega
                          have v2 : wrap64 (fp - (out.length : Int) - 1) = fp - (out.length : Int) - 1 := by simp only [wrap64]; omega
                          have HEN2 := Lib.hid (fun W => HENC.out W (fp - (out.length : Int) - 1))
                          obtain ⟨ew, hew⟩ : ∃ ew, encW ⟨xo, xa, xb, fp - (out.length : Int) - 1⟩ = ew := ⟨_, rfl⟩
                          obtain ⟨er, her⟩ : ∃ er, errI ⟨xo, xa, xb, fp - (out.length : Int) - 1⟩ = er := ⟨_, rfl⟩
                          rw [hew] at HP2
                          rw [hew, her] at HEN2
                          clear HENC hew her
                          have HO6 := Lib.hid (ownBelowI HO.out (bl_new HB3h.out (.cells #[.int .i64 xo, .int .i64 xa, .int .i64 xb, .int .i64 (fp - (out.length : Int) - 1)] 86)))
                          have HB6 := Lib.hid (bl_new (bl_step HB3.out HB3h.out) (.cells #[.int .i64 xo, .int .i64 xa, .int .i64 xb, .int .i64 (fp - (out.length : Int) - 1)] 86))
                          have f0 := HX3.out.frozen 0
                          have f1 := HX3.out.frozen 1
                          have f2 := HX3.out.frozen 2
                          have f3 := HX3.out.frozen 3
                          clear HPE2
                          go_wp2_with fail
                          refine (HFD.out _ HRW4.out).mono ?_
                          rintro e W5 ⟨rfl, rfl⟩
                          go_wp2_with fail
                          refine (HEN2.out _).mono ?_
                          rintro e W5 ⟨rfl, hb5⟩
                          have hsB := (bl_step HB6.out hb5).size
                          clear c0 c1 c2 c3 clt f0 f1 f2 f3
                          have hownE := ownBelowI HO6.out hb5
                          go_wp2_with (at_builtin; refine wpList_append_own _ rfl _ _ 22 rfl wB.heap.size 41 i2 _ 1 4 Tryz.underlying22 hi'' hz0'' hz1'' hz2'' rfl (by decide) _ _ _ rfl (hownE.alloc _) ⟨W5.heap.size, 0, none⟩ 1 1 [.int .u32 (ew)] rfl rfl (cells_new _ _ _) (by simp [Value.oneCell']) (by unfold maxLen; omega) (by omega) (by simp; omega) ?_; intro v' w1 hown' hgrow _)
                          have HO2 := Lib.hid (ownU3_snoc hown')
                          have HBN := Lib.hid (belowG ((bl_step HB6.out hb5).alloc (hsB) _) hgrow (ownBlk hownE) (by simp; omega))
                          clear hown' hgrow hownE
                          go_wp2
                          go_roundw
                          case rel => exact ⟨k + 1, out ++ [ew], by go_num, by omega, by rw [List.length_append]; show _ + 1 ≤ _; omega, HP2, HO2.out, HBN.out⟩
                          case measure => first | (simp [intOf]; omega) | (simp [intOf]; done)
              · obtain rfl : k = ls.length := by omega
                have hka : ¬ (ls.length : Int) < (ls.length : Int) := by omega
                have hP := HP.out
                rw [List.drop_of_length_le (Nat.le_refl _), wordsR] at hP
                have HEQ := Lib.hid (show asmR s.data.toList = (out, 0, 0) from by rw [HE3.out, ← hP])
                clear hP HE3 HP
                go_wp2
                refine bodyPost_ret (results_tmp3 rfl _ _ _) rfl ?_
                rw [← HPOST.out, HEQ.out]
                exact ⟨_, rfl, own_base HO.out HBW.out.size, HBX.out⟩
end Go.Proofs.YtpikgebfeleajaaGreatDoor.I
