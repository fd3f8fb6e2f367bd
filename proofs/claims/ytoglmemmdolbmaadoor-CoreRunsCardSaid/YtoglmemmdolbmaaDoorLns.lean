/-
  A text's lines, with their ends. Plain: no program in sight. No condition.
-/
import Derived.Lib.SplitLaws
import Derived.Lib.Join
import Derived.Lib.ItoaNum
import Derived.Lib.ItoaMem
import Derived.Lib.AtoiTie
import Derived.Lib.ParseIntBTie
import Derived.Lib.ItoaLen
import Derived.Lib.IndexLaws
namespace Go.Proofs.YtoglmemmdolbmaaDoor
section
set_option linter.unusedVariables false
set_option linter.unusedSimpArgs false

/-- A line's words: cut at each blank (32). -/
def pieces : List UInt8 → List (List UInt8)
  | [] => [[]]
  | c :: r => if c = 32 then [] :: pieces r else
    match pieces r with
    | p :: ps => (c :: p) :: ps
    | [] => [[c]]
theorem pieces_ne (l : List UInt8) : pieces l ≠ [] := by
  cases l with
  | nil => simp [pieces]
  | cons c r =>
    unfold pieces
    split
    · simp
    · split <;> simp
theorem pieces_blank (r : List UInt8) : pieces (32 :: r) = [] :: pieces r := by simp [pieces]
theorem pieces_other {c : UInt8} (h : c ≠ 32) (r : List UInt8) {p : List UInt8} {ps : List (List UInt8)} (hr : pieces r = p :: ps) : pieces (c :: r) = (c :: p) :: ps := by
  rw [pieces, if_neg h, hr]
theorem pieces_len (l : List UInt8) : (pieces l).length = l.count 32 + 1 := by
  induction l with
  | nil => rfl
  | cons c r ih =>
    by_cases h : c = 32
    · subst h; rw [pieces_blank, List.length_cons, ih, List.count_cons_self]
    · obtain ⟨p, ps, hp⟩ := List.exists_cons_of_ne_nil (pieces_ne r)
      rw [pieces_other h r hp, List.count_cons_of_ne (by simpa using h), ← ih, hp]
      simp
theorem splitK_pieces : ∀ (l : List UInt8), Lib.splitK [32] 0 (l.count 32) l = pieces l
  | [] => rfl
  | c :: r => by
    have ih := splitK_pieces r
    by_cases h : c = 32
    · subst h
      have hix : Lib.index (32 :: r) [32] = 0 := by rw [Lib.index]; simp [List.isPrefixOf]
      rw [List.count_cons_self, Lib.splitK, hix, if_neg (by decide), pieces_blank]
      simp [ih]
    · have hp : ([32] : List UInt8).isPrefixOf (c :: r) = false := by simp [List.isPrefixOf, Ne.symm h]
      have hix : Lib.index (c :: r) [32] = if Lib.index r [32] == -1 then -1 else Lib.index r [32] + 1 := by rw [Lib.index, hp]; simp
      rw [List.count_cons_of_ne (by simpa using h)]
      cases hk : r.count 32 with
      | zero =>
        rw [hk] at ih
        have ih' : pieces r = [r] := ih.symm
        rw [pieces_other h r ih']
        rfl
      | succ k =>
        rw [hk] at ih
        by_cases hm : Lib.index r [32] = -1
        · have h0 := Lib.count_one 32 r
          rw [Lib.count_miss hm, hk] at h0
          omega
        · have hge := Lib.index_ge r [32]
          obtain ⟨j, hj⟩ : ∃ j : Nat, Lib.index r [32] = j := ⟨(Lib.index r [32]).toNat, by omega⟩
          have hix' : Lib.index (c :: r) [32] = ((j + 1 : Nat) : Int) := by rw [hix, if_neg (fun e => hm (beq_iff_eq.1 e)), hj]; omega
          rw [Lib.splitK, hj, if_neg (by simp)] at ih
          rw [Lib.splitK, hix', if_neg (by simp; omega)]
          rw [pieces_other h r ih.symm]
          simp

/-- Words, with a blank between each two. -/
def glue : List (List UInt8) → List UInt8
  | [] => []
  | [w] => w
  | w :: ws => w ++ 32 :: glue ws
theorem glue_two (w u : List UInt8) (ws : List (List UInt8)) : glue (w :: u :: ws) = w ++ 32 :: glue (u :: ws) := rfl
theorem glue_pieces (l : List UInt8) : glue (pieces l) = l := by
  induction l with
  | nil => rfl
  | cons c r ih =>
    obtain ⟨p, ps, hp⟩ := List.exists_cons_of_ne_nil (pieces_ne r)
    by_cases h : c = 32
    · subst h
      rw [pieces_blank, hp, glue_two, ← hp, ih]
      rfl
    · rw [pieces_other h r hp]
      rw [hp] at ih
      cases ps with
      | nil => rw [← ih]; rfl
      | cons u us => rw [← ih, glue_two, glue_two]; rfl
theorem pieces_app {w : List UInt8} (hw : ∀ c ∈ w, c ≠ 32) (r : List UInt8) : pieces (w ++ 32 :: r) = w :: pieces r := by
  induction w with
  | nil => exact pieces_blank r
  | cons c w ih => exact pieces_other (hw c (by simp)) _ (ih fun d hd => hw d (by simp [hd]))
theorem pieces_word {w : List UInt8} (hw : ∀ c ∈ w, c ≠ 32) : pieces w = [w] := by
  induction w with
  | nil => rfl
  | cons c w ih => exact pieces_other (hw c (by simp)) _ (ih fun d hd => hw d (by simp [hd]))
theorem pieces_glue : ∀ (ws : List (List UInt8)), ws ≠ [] → (∀ w ∈ ws, ∀ c ∈ w, c ≠ 32) → pieces (glue ws) = ws
  | [], h, _ => absurd rfl h
  | [w], _, hw => pieces_word (hw w (by simp))
  | w :: u :: ws, _, hw => by
    rw [glue_two, pieces_app (hw w (by simp)), pieces_glue (u :: ws) (by simp) (fun v hv => hw v (by simp [hv]))]
theorem pieces_noBlank : ∀ (l : List UInt8), ∀ w ∈ pieces l, ∀ c ∈ w, c ≠ 32
  | [], w, hw, c, hc => by simp [pieces] at hw; subst hw; simp at hc
  | d :: r, w, hw, c, hc => by
    have ih := pieces_noBlank r
    obtain ⟨p, ps, hp⟩ := List.exists_cons_of_ne_nil (pieces_ne r)
    by_cases h : d = 32
    · subst h
      rw [pieces_blank] at hw
      rcases List.mem_cons.1 hw with rfl | hw
      · simp at hc
      · exact ih w hw c hc
    · rw [pieces_other h r hp] at hw
      rcases List.mem_cons.1 hw with rfl | hw
      · rcases List.mem_cons.1 hc with rfl | hc
        · exact h
        · exact ih p (by rw [hp]; simp) c hc
      · exact ih w (by rw [hp]; simp [hw]) c hc
theorem piece_len : ∀ (l : List UInt8), ∀ w ∈ pieces l, w.length ≤ l.length
  | [], w, hw => by simp [pieces] at hw; subst hw; simp
  | d :: r, w, hw => by
    have ih := piece_len r
    obtain ⟨p, ps, hp⟩ := List.exists_cons_of_ne_nil (pieces_ne r)
    by_cases h : d = 32
    · subst h
      rw [pieces_blank] at hw
      rcases List.mem_cons.1 hw with rfl | hw
      · simp
      · have := ih w hw; simp only [List.length_cons]; omega
    · rw [pieces_other h r hp] at hw
      rcases List.mem_cons.1 hw with rfl | hw
      · have := ih p (by rw [hp]; simp); simp only [List.length_cons]; omega
      · have := ih w (by rw [hp]; simp [hw]); simp only [List.length_cons]; omega
theorem word_len (l : List UInt8) (j : Nat) : ((pieces l).getD j []).length ≤ l.length := by
  rw [List.getD_eq_getElem?_getD]
  cases h : (pieces l)[j]? with
  | none => simp
  | some w => exact piece_len l w (List.mem_of_getElem? h)
theorem join_glue : ∀ (ws : List (List UInt8)), Lib.join ws [32] = glue ws
  | [] => rfl
  | [w] => Lib.join_one w _
  | w :: u :: ws => by
    have ih := join_glue (u :: ws)
    rw [Lib.join_cons] at ih
    rw [Lib.join_cons, glue_two, ← ih]
    simp [Lib.joinTail]

/-! ## numerals -/
theorem dg_range (u j : Nat) : 48 ≤ (Lib.dg u j).toNat ∧ (Lib.dg u j).toNat ≤ 57 := by
  unfold Lib.dg
  have : u / 10 ^ j % 10 < 10 := Nat.mod_lt _ (by omega)
  simp only [UInt8.toNat_ofNat']
  omega
theorem dec_digit {u : Nat} {c : UInt8} (h : c ∈ Lib.decDigits u) : 48 ≤ c.toNat ∧ c.toNat ≤ 57 := by
  rw [Lib.decDigits_eq, List.mem_map] at h
  obtain ⟨t, _, rfl⟩ := h
  exact dg_range _ _
theorem dec_ne (u : Nat) : Lib.decDigits u ≠ [] := by
  intro h
  have := Lib.decDigits_length u
  rw [h] at this
  have := Lib.nDigits_pos u
  simp at *
  omega
theorem dec_noBlank (u : Nat) : ∀ c ∈ Lib.decDigits u, c ≠ 32 := fun c hc h => by
  have := dec_digit hc
  subst h
  have e : (32 : UInt8).toNat = 32 := rfl
  omega
theorem itoa_noBlank (n : Int) : ∀ c ∈ Lib.itoa n, c ≠ 32 := fun c hc => by
  unfold Lib.itoa at hc
  split at hc
  · rcases List.mem_cons.1 hc with rfl | hc
    · decide
    · exact dec_noBlank _ c hc
  · exact dec_noBlank _ c hc

theorem nat_digit {d : Nat} (h : d < 10) : (UInt8.ofNat (48 + d)).toNat = 48 + d := by
  rw [UInt8.toNat_ofNat']
  omega
theorem parseM_app (M : Nat) : ∀ (l r : List UInt8) (acc a : Nat), Lib.parseUintM M acc l = .ok a → Lib.parseUintM M acc (l ++ r) = Lib.parseUintM M a r
  | [], r, acc, a, h => by
    rw [Lib.parseUintM] at h
    injection h with h
    rw [h, List.nil_append]
  | c :: l, r, acc, a, h => by
    rw [Lib.parseUintM] at h
    rw [List.cons_append, Lib.parseUintM]
    split at h
    · rename_i h1
      rw [if_pos h1]
      split at h
      · cases h
      · rename_i h2
        rw [if_neg h2]
        split at h
        · cases h
        · rename_i h3
          rw [if_neg h3]
          exact parseM_app M l r _ a h
    · cases h
theorem parseM_dec (M : Nat) (hM : M ≤ 18446744073709551615) : ∀ (k u : Nat), u ≤ k → u ≤ M → Lib.parseUintM M 0 (Lib.decDigits u) = .ok u
  | 0, u, hk, hu => by
    obtain rfl : u = 0 := by omega
    rw [Lib.decDigits_one (by omega), Lib.parseUintM, if_pos (by rw [nat_digit (by omega)]; omega), if_neg (by omega), if_neg (by rw [nat_digit (by omega)]; omega), Lib.parseUintM, nat_digit (by omega)]
  | k + 1, u, hk, hu => by
    by_cases h : u < 10
    · rw [Lib.decDigits_one h, Lib.parseUintM, if_pos (by rw [nat_digit h]; omega), if_neg (by omega), if_neg (by rw [nat_digit h]; omega), Lib.parseUintM, nat_digit h]
      congr 1
      omega
    · have ih := parseM_dec M hM k (u / 10) (by omega) (by omega)
      have hd : u % 10 < 10 := Nat.mod_lt _ (by omega)
      rw [Lib.decDigits, dif_neg h, parseM_app M _ _ 0 _ ih, Lib.parseUintM, if_pos (by rw [nat_digit hd]; omega), if_neg (by omega), if_neg (by rw [nat_digit hd]; omega), Lib.parseUintM, nat_digit hd]
      congr 1
      omega
theorem parse32_dec {u : Nat} (hu : u < 4294967296) : Lib.parseUintB 32 (Lib.decDigits u) = .ok u := by
  unfold Lib.parseUintB
  rw [if_neg (dec_ne u)]
  exact parseM_dec _ (by decide) u u (Nat.le_refl _) (by omega)
theorem parseMag_dec {u : Nat} (hu : u < 18446744073709551616) : Lib.parseMag (Lib.decDigits u) = .ok u := by
  unfold Lib.parseMag
  rw [if_neg (dec_ne u), ← Lib.parseUintM_64]
  exact parseM_dec _ (by decide) u u (Nat.le_refl _) (by omega)
theorem atoi_itoa {n : Int} (h0 : -9223372036854775808 ≤ n) (h1 : n ≤ 9223372036854775807) : Lib.atoiAll (Lib.itoa n) = .ok n := by
  unfold Lib.itoa
  split
  · rw [Lib.atoiAll_minus, parseMag_dec (by omega), Lib.signed, if_neg (by omega)]
    congr 1
    omega
  · obtain ⟨c, r, hc⟩ := List.exists_cons_of_ne_nil (dec_ne n.toNat)
    have hd := dec_digit (u := n.toNat) (c := c) (by rw [hc]; simp)
    rw [hc, Lib.atoiAll_plain c r (by omega) (by omega), ← hc, parseMag_dec (by omega), Lib.signless, if_neg (by omega)]
    congr 1
    omega

/-- What Atoi tells of a text, and whether without an error. -/
def atoiV (l : List UInt8) : Int := match Lib.atoiAll l with
  | .ok v => v
  | .range => Lib.atoiSat l
  | _ => 0
def okE {α : Type} : Lib.NumEnd α → Bool
  | .ok _ => true
  | _ => false
def uintV (l : List UInt8) : Int := match Lib.parseUintB 32 l with
  | .ok v => v
  | .range => 4294967295
  | _ => 0
theorem atoiV_itoa {n : Int} (h0 : -9223372036854775808 ≤ n) (h1 : n ≤ 9223372036854775807) : atoiV (Lib.itoa n) = n := by unfold atoiV; rw [atoi_itoa h0 h1]
theorem uintV_dec {u : Nat} (hu : u < 4294967296) : uintV (Lib.decDigits u) = u := by unfold uintV; rw [parse32_dec hu]
theorem uintV_range (l : List UInt8) : 0 ≤ uintV l ∧ uintV l ≤ 4294967295 := by
  unfold uintV
  split
  · rename_i v h
    have := Lib.parseUintB_le h
    omega
  · omega
  · omega
theorem atoiV_range (l : List UInt8) : -9223372036854775808 ≤ atoiV l ∧ atoiV l ≤ 9223372036854775807 := by
  unfold atoiV
  split
  · rename_i v h
    exact Lib.atoiAll_bounds h
  · exact Lib.atoiSat_bounds l
  · omega
theorem itoa_len (n : Int) (h0 : -9223372036854775808 ≤ n) (h1 : n ≤ 9223372036854775807) : (Lib.itoa n).length ≤ 21 := Lib.itoa_length_le n h0 h1
theorem dec_len {u : Nat} (hu : u < 18446744073709551616) : (Lib.decDigits u).length ≤ 20 := by rw [Lib.decDigits_length]; exact Lib.nDigits_le20 u hu

/-! ## numerals, reckoned with fuel -/
def decF : Nat → Nat → List UInt8
  | 0, _ => []
  | f + 1, u => if u < 10 then [UInt8.ofNat (48 + u)] else decF f (u / 10) ++ [UInt8.ofNat (48 + u % 10)]
theorem decF_eq : ∀ (f u : Nat), u < 10 ^ f → 0 < f → decF f u = Lib.decDigits u
  | 0, u, _, h => absurd h (Nat.lt_irrefl 0)
  | f + 1, u, hu, _ => by
    unfold decF
    split
    · rename_i h
      rw [Lib.decDigits_one h]
    · rename_i h
      have h1 : u / 10 < 10 ^ f := by rw [Nat.pow_succ] at hu; omega
      have hf : 0 < f := by
        rcases Nat.eq_zero_or_pos f with rfl | hf
        · simp at h1; omega
        · exact hf
      rw [decF_eq f (u / 10) h1 hf]
      conv => rhs; rw [Lib.decDigits, dif_neg h]
def itoaF (n : Int) : List UInt8 := if n < 0 then 45 :: decF 20 n.natAbs else decF 20 n.toNat
theorem itoaF_eq {n : Int} (h0 : -9223372036854775808 ≤ n) (h1 : n ≤ 9223372036854775807) : itoaF n = Lib.itoa n := by
  unfold itoaF Lib.itoa
  split
  · rw [decF_eq 20 _ (by omega) (by decide)]
  · rw [decF_eq 20 _ (by omega) (by decide)]
end
end Go.Proofs.YtoglmemmdolbmaaDoor
namespace Go.Proofs.YtoglmemmdolbmaaDoor
section
set_option linter.unusedVariables false
set_option linter.unusedSimpArgs false

def lns : List UInt8 → List (List UInt8)
  | [] => []
  | c :: cs => if c = 10 then [10] :: lns cs else match lns cs with | [] => [[c]] | l :: ls => (c :: l) :: ls
theorem lns_end (cs : List UInt8) : lns (10 :: cs) = [10] :: lns cs := by rw [lns, if_pos rfl]
theorem lns_more {c : UInt8} (cs : List UInt8) (h : c ≠ 10) : lns (c :: cs) = match lns cs with | [] => [[c]] | l :: ls => (c :: l) :: ls := by rw [lns, if_neg h]
theorem lns_flat : ∀ s, (lns s).flatten = s
  | [] => rfl
  | c :: cs => by
    have ih := lns_flat cs
    by_cases h : c = 10
    · subst h
      rw [lns_end, List.flatten_cons, ih]
      rfl
    · rw [lns_more cs h]
      cases hl : lns cs with
      | nil =>
        rw [hl] at ih
        simp at ih
        simp [← ih]
      | cons l ls =>
        rw [hl] at ih
        show (c :: l) ++ ls.flatten = c :: cs
        rw [← ih]
        rfl
theorem lns_cut : ∀ {a : List UInt8} (rest : List UInt8), (∀ c ∈ a, c ≠ 10) → lns (a ++ 10 :: rest) = (a ++ [10]) :: lns rest
  | [], rest, _ => lns_end rest
  | c :: a, rest, h => by
    have ih := lns_cut rest (fun x hx => h x (List.mem_cons_of_mem _ hx))
    rw [List.cons_append, lns_more _ (h c (List.mem_cons_self ..)), ih]
    rfl
theorem lns_none : ∀ {a : List UInt8}, (∀ c ∈ a, c ≠ 10) → a ≠ [] → lns a = [a]
  | [], _, h => absurd rfl h
  | [c], h, _ => by rw [lns_more _ (h c (List.mem_cons_self ..))]; rfl
  | c :: d :: a, h, _ => by
    have ih := lns_none (a := d :: a) (fun x hx => h x (List.mem_cons_of_mem _ hx)) (by simp)
    rw [lns_more _ (h c (List.mem_cons_self ..)), ih]
theorem lns_some {l : List UInt8} {o : Nat} (h : Lib.indexByte l 10 = o) : lns l = l.take (o + 1) :: lns (l.drop (o + 1)) := by
  obtain ⟨h1, h2⟩ := Lib.indexByte_some h
  have hlt := (List.getElem?_eq_some_iff.1 h1).1
  have e : l = l.take o ++ 10 :: l.drop (o + 1) := by
    have h3 := (List.take_append_drop o l).symm
    rw [List.drop_eq_getElem_cons hlt, (List.getElem?_eq_some_iff.1 h1).2] at h3
    exact h3
  have hn : ∀ c ∈ l.take o, c ≠ 10 := fun c hc => by
    obtain ⟨k, hk, hkc⟩ := List.getElem_of_mem hc
    rw [List.length_take] at hk
    rw [List.getElem_take] at hkc
    have := h2 k (by omega)
    rw [List.getElem?_eq_getElem (by omega), hkc] at this
    exact fun hh => this (by rw [hh])
  have ht : l.take (o + 1) = l.take o ++ [10] := by rw [List.take_add_one, h1]; rfl
  rw [ht]
  have := lns_cut (l.drop (o + 1)) hn
  rw [← e] at this
  exact this
theorem lns_neg {l : List UInt8} (h : Lib.indexByte l 10 = -1) (hne : l ≠ []) : lns l = [l] := by
  have hn := Lib.indexByte_none h
  refine lns_none (fun c hc hcc => ?_) hne
  obtain ⟨k, hk, hkc⟩ := List.getElem_of_mem hc
  exact hn k (by rw [List.getElem?_eq_getElem hk, hkc, hcc])
theorem lns_len (l : List UInt8) : (lns l).length ≤ l.length := by
  induction l with
  | nil => exact Nat.le_refl _
  | cons c cs ih =>
    by_cases h : c = 10
    · subst h
      rw [lns_end]
      simp only [List.length_cons]
      omega
    · rw [lns_more cs h]
      cases hl : lns cs with
      | nil => simp
      | cons x xs =>
        rw [hl] at ih
        simp only [List.length_cons] at ih ⊢
        omega
theorem lns_mem {l x : List UInt8} (h : x ∈ lns l) : x.length ≤ l.length := by
  have e := lns_flat l
  have : x.length ≤ (lns l).flatten.length := by
    obtain ⟨a, b, hab⟩ := List.append_of_mem h
    rw [hab]
    simp
    omega
  rw [e] at this
  exact this
end
end Go.Proofs.YtoglmemmdolbmaaDoor
