/-
  The document's program of calls. Condition: at most a million calls, their arguments are words.
-/
import Derived.Deep.RegionLaw
import Derived.Test.YthmjddnccgiinaaDoorCa9
import Derived.Test.YthmjddnccgiinaaDoorCe2
namespace Go.Proofs.YthmjddnccgiinaaDoor
open Go.RowKit Go.Shelf
set_option linter.unusedVariables false
set_option linter.unusedSimpArgs false
attribute [local go_sem] Oper.semAt_some

theorem itoa_nat (n : Nat) : Lib.itoa (n : Int) = Lib.decDigits n := by rw [Lib.itoa_nonneg]
/-- FineC, by the arguments that a call has. -/
theorem fine_iff {N a b c : Int} (hm : MayC ⟨N, a, b, c⟩) : FineC ⟨N, a, b, c⟩ ↔ ∀ k : Nat, k < agN N → arg3 a b c k ≤ 32767 := by
  have h0 := (mayC_iff N a b c).1 hm
  have hn : agN N = (kM (kR N)).toNat := rfl
  have h3 := agN_le N
  constructor
  · rintro ⟨_, h1, h2, h4⟩ k hk
    dsimp only at h1 h2 h4
    rcases (show k = 0 ∨ k = 1 ∨ k = 2 by omega) with rfl | rfl | rfl
    · exact h1
    · exact h2
    · exact h4
  · intro h
    have hall : ∀ k : Nat, k < 3 → arg3 a b c k ≤ 32767 := fun k hk => by
      by_cases hka : k < agN N
      · exact h k hka
      · rw [h0.2 k hk (by omega)]
        omega
    exact ⟨hm, hall 0 (by omega), hall 1 (by omega), hall 2 (by omega)⟩
theorem args_at {w : World} {A : Option Addr} {l : List Cl} (h : CallsAt w A l) {i : Nat} {N a b c : Int} (hx : l[i]? = some ⟨N, a, b, c⟩) : ∃ bl off, A = some ⟨bl, off, none⟩ ∧ bl < w.heap.size ∧
    w.cell? ⟨bl, off + i * 4, none⟩ = some (.int .i64 N) ∧ w.cell? ⟨bl, off + i * 4 + 1, none⟩ = some (.int .u32 a) ∧ w.cell? ⟨bl, off + i * 4 + 2, none⟩ = some (.int .u32 b) ∧ w.cell? ⟨bl, off + i * 4 + 3, none⟩ = some (.int .u32 c) ∧
    ∀ k : Nat, k < 3 → w.cell? ⟨bl, off + i * 4 + 1 + k, none⟩ = some (.int .u32 (arg3 a b c k)) := by
  obtain ⟨bl, off, hA, hb, c0, c1, c2, c3⟩ := call_at h hx
  refine ⟨bl, off, hA, hb, c0, c1, c2, c3, fun k hk => ?_⟩
  rcases (show k = 0 ∨ k = 1 ∨ k = 2 by omega) with rfl | rfl | rfl
  · exact c1
  · exact c2
  · exact c3

set_option maxRecDepth 100000 in
set_option maxHeartbeats 8000000 in
theorem refProg_any {w : World} (A : Option Addr) (ca : Nat) (l : List Cl) (hA : CallsAt w A l) (hlen : l.length ≤ 1000000) (hr : ∀ x ∈ l, RangeC x) :
    Calls Tryd.prog 30 #[.slice A l.length ca] w fun e w' => e = .returned (.tuple #[.string ⟨((progO l).getD []).toArray⟩, .int .i64 (errC (progO l))]) ∧ Below w.heap.size w w' := by
  obtain ⟨post, hpost⟩ : ∃ post : Ending → World → Prop, post = fun e w' => e = .returned (.tuple #[.string ⟨((progO l).getD []).toArray⟩, .int .i64 (errC (progO l))]) ∧ Below w.heap.size w w' := ⟨_, rfl⟩
  rw [← hpost]
  have HPOST := Lib.hid hpost
  have HR := Lib.hid hr
  have HA := Lib.hid hA
  have HB0 := Lib.hid (Below.refl w.heap.size w)
  have HM := Lib.hid (fun N W => refMany_any (w := W) N)
  have HMAY := Lib.hid (fun N a b c W => refMay_any (w := W) N a b c)
  have HD := Lib.hid (fun (n : Nat) (hn : n < 4294967296) W => refDig_nat (w := W) n hn)
  clear hpost hr hA
  go_enter Tryd.func30, Tryd.ntmps30
  go_wp2
  go_loopw [4, 5] (fun v i wr => ∃ (k : Nat) (T : ByteArray), i = .int .i64 (k : Int) ∧ v = .string T ∧ k ≤ l.length ∧ Hid (T.data.toList = progL (l.take k)) ∧ Hid (∀ x ∈ l.take k, FineC x) ∧ Hid (Below w.heap.size w wr)) (fun _ i _ => l.length - (intOf i).toNat)
  case atStart => exact ⟨0, ⟨#[]⟩, rfl, rfl, Nat.zero_le _, rfl, Lib.hid (fun x hx => by simp at hx), HB0⟩
  case round =>
    obtain ⟨k, T, rfl, rfl, hk, HT, HF, HB⟩ := hrel
    rename World => wo
    by_cases hkl : k < l.length
    · have hkb : (k : Int) < (l.length : Int) := by omega
      have hxe : l[k]? = some l[k] := List.getElem?_eq_getElem hkl
      have hmem : l[k] ∈ l := List.getElem_mem hkl
      have hrx := HR.out _ hmem
      generalize hx0 : l[k] = x at *
      obtain ⟨N, a, b, c⟩ := x
      obtain ⟨bl, off, rfl, hbl, c0, c1, c2, c3, hck⟩ := args_at (HA.out.below HB.out) hxe
      have HXE := Lib.hid hxe
      have HMEM := Lib.hid hmem
      have HMA := Lib.hid (fun W => HMAY.out N a b c W)
      clear hx0 hmem
      by_cases hm : MayC ⟨N, a, b, c⟩
      · have hMA := HMA.out
        rw [decide_eq_true hm] at HMA
        have hfi := fine_iff hm
        have HFI := Lib.hid hfi
        have hnum := may_num hm.1
        dsimp only at hnum
        obtain ⟨n, rfl⟩ := Int.eq_ofNat_of_zero_le (show 0 ≤ N by omega)
        have hM : (agN (n : Int) : Int) = kM (kR (n : Int)) := by have := hm.1; dsimp only at this; unfold agN; omega
        have HMN := Lib.hid (fun W => HM.out (n : Int) W)
        rw [← hM] at HMN
        have hM3 := agN_le (n : Int)
        have hcv : IntKind.u32.wrap (n : Int) = (n : Int) := Int.emod_eq_of_lt (by omega) (by show (n : Int) < 4294967296; omega)
        have hcv2 : (n : Int) % 4294967296 = (n : Int) := Int.emod_eq_of_lt (by omega) (by omega)
        obtain ⟨D0, hD0⟩ : ∃ D0 : ByteArray, D0 = ⟨(Lib.decDigits n).toArray⟩ := ⟨_, rfl⟩
        have HD0 := Lib.hid (fun W => HD.out n (by omega) W)
        rw [← hD0] at HD0
        have hz0 : D0.size ≤ 20 := by rw [hD0]; show (Lib.decDigits n).toArray.size ≤ _; rw [List.size_toArray]; exact dec_len (by omega)
        have hTz : T.size ≤ 200000000 := by
          have h := flat_len callP 200 (l.take k) (fun y hy => callP_len (HR.out y (List.mem_of_mem_take hy)) (HF.out y hy).1)
          have h2 := l.length_take_le k
          have h3 : T.size = T.data.toList.length := by rw [Array.length_toList]; rfl
          have h4 : (progL (l.take k)).length ≤ (l.take k).length * 200 := h
          rw [h3, HT.out]
          omega
        have HNUM := Lib.hid (show (T ++ ⟨#[108, 105, 32, 48, 32]⟩ ++ D0 ++ ⟨#[10]⟩ : ByteArray).data.toList = T.data.toList ++ numP (n : Int) from by
          rw [app_bytes, app_bytes, app_bytes, hD0]
          unfold numP
          rw [itoa_nat]
          simp)
        have q1 : T.size + 5 ≤ 9223372036854775807 := by omega
        have q2 : T.size + 5 + D0.size ≤ 9223372036854775807 := by omega
        have q3 : T.size + 5 + D0.size + 1 ≤ 9223372036854775807 := by omega
        have HHM := Lib.hid hm
        have HRX := Lib.hid hrx
        have HMQ := Lib.hid hM
        clear hMA hfi hnum hM hD0 hm hrx hxe
        go_wp2_with fail
        refine (HMA.out _).mono ?_
        rintro e w1 ⟨rfl, hb1⟩
        have HB1 := Lib.hid (bl_step HB.out hb1)
        clear c0 c1 c2 c3 hck hb1 hbl
        obtain ⟨bl', off', e1, hbl, c0, c1, c2, c3, hck⟩ := args_at (HA.out.below HB1.out) HXE.out
        injection e1 with e1
        injection e1 with e1 e2 _
        subst e1 e2
        go_wp2_with fail
        refine (HD0.out _).mono ?_
        rintro e w2 ⟨rfl, hb2⟩
        have HB2 := Lib.hid (bl_step HB1.out hb2)
        clear c0 c1 c2 c3 hck hb2 hbl
        generalize hV : (T ++ ⟨#[108, 105, 32, 48, 32]⟩ ++ D0 ++ ⟨#[10]⟩ : ByteArray) = V at *
        have hVz : V.size ≤ 200000100 := by
          rw [← hV, ByteArray.size_append, ByteArray.size_append, ByteArray.size_append]
          show T.size + 5 + D0.size + 1 ≤ _
          omega
        go_wp2
        go_loopw [4, 7] (fun v x wr => ∃ (j : Nat) (V2 : ByteArray), v = .string V2 ∧ x = .int .i64 (j : Int) ∧ j ≤ agN (n : Int) ∧ V2.size ≤ 200000100 + 60 * j ∧ Hid (V2.data.toList = T.data.toList ++ numP (n : Int) ++ ((agL (n : Int) a b c).take j).flatMap argP) ∧ Hid (∀ i, i < j → arg3 a b c i ≤ 32767) ∧ Hid (Below w.heap.size w wr)) (fun _ x _ => 3 - (intOf x).toNat)
        case atStart => exact ⟨0, V, rfl, rfl, Nat.zero_le _, by omega, Lib.hid (by rw [HNUM.out, List.take_zero, List.flatMap_nil, List.append_nil]), Lib.hid (fun i hi => by omega), HB2⟩
        case round =>
          obtain ⟨j, V2, rfl, rfl, hj, hV2, HV2, HJ, HBi⟩ := hrel
          rename World => wi
          obtain ⟨bl', off', e1, hbl, c0, c1, c2, c3, hck⟩ := args_at (HA.out.below HBi.out) HXE.out
          injection e1 with e1
          injection e1 with e1 e2 _
          subst e1 e2
          clear HB2 HNUM hV hVz
          by_cases hjM : j < agN (n : Int)
          · have hjb : (j : Int) < (agN (n : Int) : Int) := by omega
            have hj3 : j < 3 := by omega
            have hj3b : (j : Int) < 3 := by omega
            have hcj := hck j hj3
            have HCK := Lib.hid (fun X (hX : Below wi.heap.size wi X) => (args_at (HA.out.below (bl_step HBi.out hX)) HXE.out))
            obtain ⟨hv0, hv1⟩ := arg_range HRX.out j
            have HTK := Lib.hid (agL_take (N := (n : Int)) (a := a) (b := b) (c := c) hjM)
            obtain ⟨D2, hD2⟩ : ∃ D2 : ByteArray, D2 = ⟨(Lib.decDigits (arg3 a b c j).toNat).toArray⟩ := ⟨_, rfl⟩
            obtain ⟨D1, hD1⟩ : ∃ D1 : ByteArray, D1 = ⟨(Lib.decDigits (j + 1)).toArray⟩ := ⟨_, rfl⟩
            have hz2 : D2.size ≤ 20 := by rw [hD2]; show (Lib.decDigits _).toArray.size ≤ _; rw [List.size_toArray]; exact dec_len (by omega)
            have hz1 : D1.size ≤ 20 := by rw [hD1]; show (Lib.decDigits _).toArray.size ≤ _; rw [List.size_toArray]; exact dec_len (by omega)
            have HARG := Lib.hid (show (V2 ++ ⟨#[108, 105, 32]⟩ ++ D1 ++ ⟨#[32]⟩ ++ D2 ++ ⟨#[10]⟩ : ByteArray).data.toList = T.data.toList ++ numP (n : Int) ++ ((agL (n : Int) a b c).take (j + 1)).flatMap argP from by
              obtain ⟨x, hx1, hx2, hx3⟩ := HTK.out
              rw [app_bytes, app_bytes, app_bytes, app_bytes, app_bytes, HV2.out, hx1, List.flatMap_append, hD1, hD2]
              have e : argP x = [108, 105, 32] ++ Lib.decDigits (j + 1) ++ [32] ++ Lib.decDigits (arg3 a b c j).toNat ++ [10] := by
                unfold argP wordG
                rw [hx2, hx3, show (1 + (j : Int)) = ((j + 1 : Nat) : Int) by omega, itoa_nat]
              simp [e])
            have C1 := Lib.hid (fun X (hX : Below wi.heap.size wi X) => show Calls Tryd.prog 44 #[.int .u32 ((j : Int) + 1)] X fun e w' => e = .returned (.string D1) ∧ Below wi.heap.size wi w' from by
              have h := HD.out (j + 1) (by omega) X
              rw [show ((j + 1 : Nat) : Int) = (j : Int) + 1 by omega, ← hD1] at h
              exact h.mono fun e w' h => ⟨h.1, bl_step hX h.2⟩)
            have C2 := Lib.hid (fun X (hX : Below wi.heap.size wi X) => show Calls Tryd.prog 44 #[.int .u32 (arg3 a b c j)] X fun e w' => e = .returned (.string D2) ∧ Below wi.heap.size wi w' from by
              have h := HD.out (arg3 a b c j).toNat (by omega) X
              rw [show (((arg3 a b c j).toNat : Nat) : Int) = arg3 a b c j by omega, ← hD2] at h
              exact h.mono fun e w' h => ⟨h.1, bl_step hX h.2⟩)
            have HSS := Lib.hid (fun X (hX : Below wi.heap.size wi X) => show X.cell? ⟨bl, off + k * 4 + 1 + j, none⟩ = some (.int .u32 (arg3 a b c j)) from by
              obtain ⟨b9, o9, e9, _, _, _, _, _, h9⟩ := HCK.out X hX
              injection e9 with e9
              injection e9 with e9 e8 _
              rw [← e9, ← e8] at h9
              exact h9 j hj3)
            have HFIN := Lib.hid (fun (h : ¬ arg3 a b c j ≤ 32767) => show progO l = none from if_neg (fun h2 => h ((HFI.out.1 (h2 _ HMEM.out)) j hjM)))
            have hcv5 : IntKind.u32.wrap ((j : Int) + 1) = (j : Int) + 1 := Int.emod_eq_of_lt (by omega) (by show (j : Int) + 1 < 4294967296; omega)
            have hcv6 : ((j : Int) + 1) % 4294967296 = (j : Int) + 1 := Int.emod_eq_of_lt (by omega) (by omega)
            have HRF := Lib.hid (Below.refl wi.heap.size wi)
            obtain ⟨v, hve⟩ : ∃ v, arg3 a b c j = v := ⟨_, rfl⟩
            have HVE := Lib.hid hve
            rw [hve] at hv0 hv1 hcj C2 HSS HFIN
            clear hve
            have p1 : ¬ 9223372036854775807 < V2.size + 3 := by omega
            have p2 : ¬ 9223372036854775807 < V2.size + 3 + D1.size := by omega
            have p3 : ¬ 9223372036854775807 < V2.size + 3 + D1.size + 1 := by omega
            have p4 : ¬ 9223372036854775807 < V2.size + 3 + D1.size + 1 + D2.size := by omega
            have p5 : ¬ 9223372036854775807 < V2.size + 3 + D1.size + 1 + D2.size + 1 := by omega
            have p1b : V2.size + 3 ≤ 9223372036854775807 := by omega
            have p2b : V2.size + 3 + D1.size ≤ 9223372036854775807 := by omega
            have p3b : V2.size + 3 + D1.size + 1 ≤ 9223372036854775807 := by omega
            have p4b : V2.size + 3 + D1.size + 1 + D2.size ≤ 9223372036854775807 := by omega
            have p5b : V2.size + 3 + D1.size + 1 + D2.size + 1 ≤ 9223372036854775807 := by omega
            have HZV := Lib.hid (show (V2 ++ ⟨#[108, 105, 32]⟩ ++ D1 ++ ⟨#[32]⟩ ++ D2 ++ ⟨#[10]⟩ : ByteArray).size ≤ 200000100 + 60 * (j + 1) from by
              rw [ByteArray.size_append, ByteArray.size_append, ByteArray.size_append, ByteArray.size_append, ByteArray.size_append]
              show V2.size + 3 + D1.size + 1 + D2.size + 1 ≤ _
              omega)
            clear hD1 hD2 hck c1 c2 c3 hV2 HTK HCK
            by_cases hbig : v ≤ 32767
            · have HJ2 := Lib.hid (show v ≤ 32767 from hbig)
              have hbb : ¬ 32767 < v := by omega
              clear HFIN hbig
              go_wp2_with fail
              refine (HMN.out _).mono ?_
              rintro e w3 ⟨rfl, rfl⟩
              go_upto_region 14 with (fail)
              refine wp_region_any (by kernel_rfl) ?_
              change wpAny _ _ _ _ _ _ _ (World.drew _)
              refine wpAny_take (i := 0) (v := ?_) rfl (by kernel_rfl) (by kernel_rfl) (by kernel_rfl) (fun _ _ _ h => h) (Or.inl ⟨by rfl, ?_⟩) ?_
              rotate_left 1
              · intro w
                go_simp
                all_goals with_reducible rfl
              refine wpAny_take (i := 1) (v := ?_) rfl (by kernel_rfl) (by kernel_rfl) (by kernel_rfl) (fun _ _ _ h => h) (Or.inl ⟨by rfl, ?_⟩) ?_
              rotate_left 1
              · intro w
                go_simp
                all_goals with_reducible rfl
              refine wpAny_take (i := 2) (v := ?_) rfl (by kernel_rfl) (by kernel_rfl) (by kernel_rfl) (fun _ _ _ h => h) (Or.inl ⟨by rfl, ?_⟩) ?_
              rotate_left 1
              · intro w
                go_simp
                all_goals with_reducible rfl
              refine wpAny_take (i := 3) (v := .int .i64 ((j : Int) + 1)) rfl (by kernel_rfl) (by kernel_rfl) (by kernel_rfl) (fun _ _ _ h => h) (Or.inl ⟨by rfl, ?_⟩) ?_
              · intro w
                go_simp
                all_goals first | with_reducible rfl | simp only [IntWalk.i64_in _ (show -9223372036854775808 ≤ (j : Int) + 1 ∧ (j : Int) + 1 ≤ 9223372036854775807 by omega), hcv5, hcv6]
              refine wpAny_take (i := 4) (v := .int .u32 ((j : Int) + 1)) rfl (by kernel_rfl) (by kernel_rfl) (by kernel_rfl) (fun _ _ _ h => h) (Or.inl ⟨by rfl, ?_⟩) ?_
              · intro w
                go_simp
                all_goals first | with_reducible rfl | simp only [IntWalk.i64_in _ (show -9223372036854775808 ≤ (j : Int) + 1 ∧ (j : Int) + 1 ≤ 9223372036854775807 by omega), hcv5, hcv6]
              refine wpAny_take (i := 8) (v := ?_) rfl (by kernel_rfl) (by kernel_rfl) (by kernel_rfl) (fun _ _ _ h => h) (Or.inl ⟨by rfl, ?_⟩) ?_
              rotate_left 1
              · intro w
                go_simp
                all_goals with_reducible rfl
              refine wpAny_take (i := 9) (v := ?_) rfl (by kernel_rfl) (by kernel_rfl) (by kernel_rfl) (fun _ _ _ h => h) (Or.inl ⟨by rfl, ?_⟩) ?_
              rotate_left 1
              · intro w
                go_simp
                all_goals with_reducible rfl
              refine wpAny_take (i := 10) (v := ?_) rfl (by kernel_rfl) (by kernel_rfl) (by kernel_rfl) (fun _ _ _ h => h) (Or.inl ⟨by rfl, ?_⟩) ?_
              rotate_left 1
              · intro w
                go_simp
                all_goals with_reducible rfl
              refine wpAny_take (i := 11) (v := ?_) rfl (by kernel_rfl) (by kernel_rfl) (by kernel_rfl) (fun _ _ _ h => h) (Or.inl ⟨by rfl, ?_⟩) ?_
              rotate_left 1
              · intro w
                go_simp
                all_goals with_reducible rfl
              refine wpAny_take (i := 12) (v := ?_) rfl (by kernel_rfl) (by kernel_rfl) (by kernel_rfl) (fun _ _ _ h => h) (Or.inl ⟨by rfl, ?_⟩) ?_
              rotate_left 1
              · intro w
                go_simp
                all_goals with_reducible rfl
              refine wpAny_take (i := 13) (v := ?_) rfl (by kernel_rfl) (by kernel_rfl) (by kernel_rfl) (fun _ _ _ h => h) (Or.inl ⟨by rfl, ?_⟩) ?_
              rotate_left 1
              · intro w
                go_simp
                all_goals with_reducible rfl
              have hc0 := HSS.out _ HRF.out.drew
              refine wpAny_ready (rs := [5, 14]) (by kernel_rfl) (by simp) ?_
              refine AllReady.cons rfl (fun K hK => ?_) (AllReady.cons rfl (fun K hK => ?_) AllReady.nil)
              · skip
                go_simp
                refine (C1.out _ HRF.out.drew).mono ?_
                rintro e W1 ⟨rfl, hb1⟩
                refine hK _ _ ?_
                clear hK K
                refine wpAny_take (i := 6) (v := ?_) rfl (by kernel_rfl) (by kernel_rfl) (by kernel_rfl) (fun _ _ _ h => h) (Or.inl ⟨by rfl, ?_⟩) ?_
                rotate_left 1
                · intro w
                  go_simp
                  all_goals with_reducible rfl
                refine wpAny_take (i := 7) (v := ?_) rfl (by kernel_rfl) (by kernel_rfl) (by kernel_rfl) (fun _ _ _ h => h) (Or.inl ⟨by rfl, ?_⟩) ?_
                rotate_left 1
                · intro w
                  go_simp
                  all_goals with_reducible rfl
                have hc1 := HSS.out _ hb1
                refine wpAny_ready (rs := [14]) (by kernel_rfl) (by simp) ?_
                refine AllReady.cons rfl (fun K hK => ?_) AllReady.nil
                go_simp
                refine hK _ _ ?_
                clear hK K
                refine wpAny_ready (rs := [15]) (by kernel_rfl) (by simp) ?_
                refine AllReady.cons rfl (fun K hK => ?_) AllReady.nil
                go_simp
                refine (C2.out _ hb1).mono ?_
                rintro e W2 ⟨rfl, hb2⟩
                refine hK _ _ ?_
                clear hK K
                refine wpAny_take (i := 16) (v := ?_) rfl (by kernel_rfl) (by kernel_rfl) (by kernel_rfl) (fun _ _ _ h => h) (Or.inl ⟨by rfl, ?_⟩) ?_
                rotate_left 1
                · intro w
                  go_simp
                  all_goals with_reducible rfl
                refine wpAny_take (i := 17) (v := ?_) rfl (by kernel_rfl) (by kernel_rfl) (by kernel_rfl) (fun _ _ _ h => h) (Or.inl ⟨by rfl, ?_⟩) ?_
                rotate_left 1
                · intro w
                  go_simp
                  all_goals with_reducible rfl
                refine wpAny_ready (rs := [18]) (by kernel_rfl) (by simp) ?_
                refine AllReady.cons rfl (fun K hK => ?_) AllReady.nil
                go_simp
                refine hK _ _ ?_
                clear hK K
                refine wpAny_done (by kernel_rfl) ?_ _
                have hbn := hb2
                have HBN := Lib.hid (bl_step HBi.out hbn)
                have HJ3 := Lib.hid (show ∀ i, i < j + 1 → arg3 a b c i ≤ 32767 from fun i hi => by
                  rcases Nat.lt_or_ge i j with h | h
                  · exact HJ.out i h
                  · have : i = j := by omega
                    subst this
                    rw [HVE.out]
                    exact HJ2.out)
                clear hbn C1 C2 HSS HRF
                go_wp2
                go_roundw
                case rel => exact ⟨j + 1, _, rfl, by go_num, by omega, HZV.out, HARG, HJ3, HBN⟩
                case measure => simp [intOf]; omega
              · skip
                go_simp
                refine hK _ _ ?_
                clear hK K
                refine wpAny_ready (rs := [5]) (by kernel_rfl) (by simp) ?_
                refine AllReady.cons rfl (fun K hK => ?_) AllReady.nil
                go_simp
                refine (C1.out _ HRF.out.drew).mono ?_
                rintro e W1 ⟨rfl, hb1⟩
                refine hK _ _ ?_
                clear hK K
                refine wpAny_take (i := 6) (v := ?_) rfl (by kernel_rfl) (by kernel_rfl) (by kernel_rfl) (fun _ _ _ h => h) (Or.inl ⟨by rfl, ?_⟩) ?_
                rotate_left 1
                · intro w
                  go_simp
                  all_goals with_reducible rfl
                refine wpAny_take (i := 7) (v := ?_) rfl (by kernel_rfl) (by kernel_rfl) (by kernel_rfl) (fun _ _ _ h => h) (Or.inl ⟨by rfl, ?_⟩) ?_
                rotate_left 1
                · intro w
                  go_simp
                  all_goals with_reducible rfl
                refine wpAny_ready (rs := [15]) (by kernel_rfl) (by simp) ?_
                refine AllReady.cons rfl (fun K hK => ?_) AllReady.nil
                go_simp
                refine (C2.out _ hb1).mono ?_
                rintro e W2 ⟨rfl, hb2⟩
                refine hK _ _ ?_
                clear hK K
                refine wpAny_take (i := 16) (v := ?_) rfl (by kernel_rfl) (by kernel_rfl) (by kernel_rfl) (fun _ _ _ h => h) (Or.inl ⟨by rfl, ?_⟩) ?_
                rotate_left 1
                · intro w
                  go_simp
                  all_goals with_reducible rfl
                refine wpAny_take (i := 17) (v := ?_) rfl (by kernel_rfl) (by kernel_rfl) (by kernel_rfl) (fun _ _ _ h => h) (Or.inl ⟨by rfl, ?_⟩) ?_
                rotate_left 1
                · intro w
                  go_simp
                  all_goals with_reducible rfl
                refine wpAny_ready (rs := [18]) (by kernel_rfl) (by simp) ?_
                refine AllReady.cons rfl (fun K hK => ?_) AllReady.nil
                go_simp
                refine hK _ _ ?_
                clear hK K
                refine wpAny_done (by kernel_rfl) ?_ _
                have hbn := hb2
                have HBN := Lib.hid (bl_step HBi.out hbn)
                have HJ3 := Lib.hid (show ∀ i, i < j + 1 → arg3 a b c i ≤ 32767 from fun i hi => by
                  rcases Nat.lt_or_ge i j with h | h
                  · exact HJ.out i h
                  · have : i = j := by omega
                    subst this
                    rw [HVE.out]
                    exact HJ2.out)
                clear hbn C1 C2 HSS HRF
                go_wp2
                go_roundw
                case rel => exact ⟨j + 1, _, rfl, by go_num, by omega, HZV.out, HARG, HJ3, HBN⟩
                case measure => simp [intOf]; omega
            · have hbb : 32767 < v := by omega
              have HP2 := Lib.hid (show post = fun e w' => e = .returned (.tuple #[.string ⟨#[]⟩, .int .i64 160]) ∧ Below w.heap.size w w' from by rw [HPOST.out, HFIN.out hbig]; rfl)
              clear HFIN hbig C1 C2 HSS
              go_wp2_with fail
              refine (HMN.out _).mono ?_
              rintro e w3 ⟨rfl, rfl⟩
              go_wp2
              rw [HP2.out]
              exact ⟨rfl, HBi.out⟩
          · have hjj : j = agN (n : Int) := by omega
            have hjb : ¬ (j : Int) < (agN (n : Int) : Int) := by omega
            have hfine := HFI.out.2 (fun i hi => HJ.out i (by omega))
            have HF2 := Lib.hid (show ∀ x ∈ l.take (k + 1), FineC x from fun x hx => by
              rw [List.take_add_one, HXE.out, List.mem_append] at hx
              rcases hx with hx | hx
              · exact HF.out x hx
              · simp at hx
                rw [hx]
                exact hfine)
            have HT2 := Lib.hid (show (V2 ++ ⟨#[115, 121, 115, 10]⟩ : ByteArray).data.toList = progL (l.take (k + 1)) from by
              rw [prog_take HXE.out, app_bytes, HV2.out, HT.out, hjj, show (agL (n : Int) a b c).take (agN (n : Int)) = agL (n : Int) a b c from List.take_of_length_le (by rw [agL_len]; exact Nat.le_refl _)]
              unfold callP
              simp)
            have p1 : V2.size + 4 ≤ 9223372036854775807 := by omega
            clear hfine hck c1 c2 c3 hjj
            go_wp2_with fail
            refine (HMN.out _).mono ?_
            rintro e w3 ⟨rfl, rfl⟩
            go_wp2
            go_roundw
            case rel => exact ⟨k + 1, V2 ++ ⟨#[115, 121, 115, 10]⟩, by go_num, rfl, by omega, HT2, HF2, HBi⟩
            case measure => simp [intOf]; omega
      · rw [decide_eq_false hm] at HMA
        have hn2 : progO l = none := if_neg (fun h => hm (h _ HMEM.out).1)
        have HP2 := Lib.hid (show post = fun e w' => e = .returned (.tuple #[.string ⟨#[]⟩, .int .i64 160]) ∧ Below w.heap.size w w' from by rw [HPOST.out, hn2]; rfl)
        clear hm hn2 hck
        go_wp2_with fail
        refine (HMA.out _).mono ?_
        rintro e w1 ⟨rfl, hb1⟩
        have HB1 := Lib.hid (bl_step HB.out hb1)
        clear c0 c1 c2 c3 hb1 hbl
        go_wp2
        rw [HP2.out]
        exact ⟨rfl, HB1.out⟩
    · have hkk : k = l.length := by omega
      subst hkk
      have hf := HF.out
      have ht := HT.out
      rw [List.take_length] at hf ht
      have hn2 : progO l = some (progL l) := if_pos hf
      have HP2 := Lib.hid (show post = fun e w' => e = .returned (.tuple #[.string T, .int .i64 0]) ∧ Below w.heap.size w w' from by
        rw [HPOST.out, hn2]
        have : (⟨((some (progL l)).getD []).toArray⟩ : ByteArray) = T := bytes_eq (by rw [ht]; rfl)
        rw [this]
        rfl)
      clear hf ht hn2
      go_wp2
      rw [HP2.out]
      exact ⟨rfl, HB.out⟩
end Go.Proofs.YthmjddnccgiinaaDoor
