/- Plain facts: a number's text is read as the number; a text cut at a byte, and joined again. No program in sight. -/
import Derived.Test.YtgplaeopcejmoaaGreatDoorWords
import Derived.Lib.ParseIntBCases
import Derived.Lib.SplitLaws
import Derived.Lib.IndexLaws
import Derived.Lib.ItoaNum
namespace Go.Proofs.YtgplaeopcejmoaaGreatDoor

/-! ### digits -/
def digB (c : UInt8) : Prop := 48 ≤ c.toNat ∧ c.toNat ≤ 57
def valD (acc : Nat) (l : Bs) : Nat := l.foldl (fun a c => a * 10 + (c.toNat - 48)) acc
theorem valD_ge : ∀ (l : Bs) (acc : Nat), acc ≤ valD acc l
  | [], acc => Nat.le_refl _
  | c :: r, acc => by
    have := valD_ge r (acc * 10 + (c.toNat - 48))
    unfold valD at this ⊢
    rw [List.foldl_cons]; omega
theorem parseU_val : ∀ (l : Bs) (acc : Nat), (∀ c ∈ l, digB c) → valD acc l < 18446744073709551616 → Lib.parseUint10 acc l = .ok (valD acc l)
  | [], acc, _, _ => rfl
  | c :: r, acc, hd, hv => by
    have h1 : 48 ≤ c.toNat ∧ c.toNat ≤ 57 := hd c (by simp)
    have hg := valD_ge r (acc * 10 + (c.toNat - 48))
    have hv' : valD (acc * 10 + (c.toNat - 48)) r < 18446744073709551616 := hv
    rw [Lib.parseUint10, if_pos h1, if_neg (by omega), if_neg (by omega), parseU_val r _ (fun x hx => hd x (by simp [hx])) hv']
    rfl
theorem digit_of {d : Nat} (h : d < 10) : digB (UInt8.ofNat (48 + d)) ∧ (UInt8.ofNat (48 + d)).toNat = 48 + d := by
  have e : (UInt8.ofNat (48 + d)).toNat = 48 + d := by rw [UInt8.toNat_ofNat']; omega
  exact ⟨by unfold digB; omega, e⟩
theorem dec_digits (u : Nat) : ∀ c ∈ Lib.decDigits u, digB c := by
  induction u using Nat.strongRecOn with
  | _ u ih =>
    by_cases h : u < 10
    · rw [Lib.decDigits, dif_pos h]
      intro c hc
      simp only [List.mem_singleton] at hc
      rw [hc]; exact (digit_of h).1
    · rw [Lib.decDigits, dif_neg h]
      intro c hc
      rcases List.mem_append.1 hc with hc | hc
      · exact ih (u / 10) (by omega) c hc
      · simp only [List.mem_singleton] at hc
        rw [hc]; exact (digit_of (by omega)).1
theorem dec_val (u : Nat) : valD 0 (Lib.decDigits u) = u := by
  induction u using Nat.strongRecOn with
  | _ u ih =>
    by_cases h : u < 10
    · rw [Lib.decDigits, dif_pos h]
      simp only [valD, List.foldl_cons, List.foldl_nil, (digit_of h).2]; omega
    · rw [Lib.decDigits, dif_neg h]
      have h1 := ih (u / 10) (by omega)
      unfold valD at h1 ⊢
      rw [List.foldl_append, h1, List.foldl_cons, List.foldl_nil, (digit_of (by omega)).2]; omega
theorem dec_ne (u : Nat) : Lib.decDigits u ≠ [] := by
  rw [Lib.decDigits]; split <;> simp
theorem parseMag_dec {u : Nat} (h : u < 18446744073709551616) : Lib.parseMag (Lib.decDigits u) = .ok u := by
  unfold Lib.parseMag
  rw [if_neg (dec_ne u), parseU_val _ _ (dec_digits u) (by rw [dec_val]; exact h), dec_val]
theorem parseB_dec {u : Nat} (h : u < 18446744073709551616) : Lib.parseUintB 64 (Lib.decDigits u) = .ok u := by
  rw [Lib.parseUintB_64]; exact parseMag_dec h
theorem atoi_itoa {n : Int} (h0 : -9223372036854775808 ≤ n) (h1 : n ≤ 9223372036854775807) : Lib.atoiAll (Lib.itoa n) = .ok n := by
  unfold Lib.itoa
  by_cases hn : n < 0
  · rw [if_pos hn, Lib.atoiAll_minus, parseMag_dec (by omega)]
    unfold Lib.signed
    simp only
    rw [if_neg (by omega)]
    congr 1; omega
  · rw [if_neg hn]
    obtain ⟨c, r, hcr⟩ : ∃ c r, Lib.decDigits n.toNat = c :: r := by
      cases h : Lib.decDigits n.toNat with
      | nil => exact absurd h (dec_ne _)
      | cons c r => exact ⟨c, r, rfl⟩
    have hc := dec_digits n.toNat c (by rw [hcr]; simp)
    unfold digB at hc
    have hp := parseMag_dec (u := n.toNat) (by omega)
    rw [hcr] at hp ⊢
    rw [Lib.atoiAll_plain c r (by omega) (by omega), hp]
    unfold Lib.signless
    simp only
    rw [if_neg (by omega)]
    congr 1; omega
/-- does a text lack a byte? -/
def lackB (c : UInt8) (l : Bs) : Prop := ∀ x ∈ l, x ≠ c
theorem lack_dec (u : Nat) : lackB 32 (Lib.decDigits u) ∧ lackB 10 (Lib.decDigits u) := by
  constructor
  all_goals
    intro x hx e
    have := dec_digits u x hx
    subst e
    revert this
    unfold digB
    decide
theorem lack_itoa (n : Int) : lackB 32 (Lib.itoa n) ∧ lackB 10 (Lib.itoa n) := by
  unfold Lib.itoa
  split
  · have h := lack_dec n.natAbs
    refine ⟨fun x hx => ?_, fun x hx => ?_⟩
    · rcases List.mem_cons.1 hx with rfl | hx
      · decide
      · exact h.1 x hx
    · rcases List.mem_cons.1 hx with rfl | hx
      · decide
      · exact h.2 x hx
  · exact lack_dec _
theorem itoa_ne (n : Int) : Lib.itoa n ≠ [] := by
  unfold Lib.itoa; split
  · simp
  · exact dec_ne _
theorem lack_word (l : Bs) : lackB 32 (wordL l) ∧ lackB 10 (wordL l) := by
  constructor
  all_goals
    intro x hx e
    have := wordL_range hx
    subst e
    revert this
    decide

/-! ### pieces -/
/-- the pieces of a text between the bytes c -/
def cutsL (c : UInt8) : Bs → List Bs
  | [] => [[]]
  | x :: r => if x = c then [] :: cutsL c r else match cutsL c r with
    | h :: t => (x :: h) :: t
    | [] => [[x]]
theorem cutsL_ne (c : UInt8) (l : Bs) : cutsL c l ≠ [] := by
  cases l with
  | nil => simp [cutsL]
  | cons x r => unfold cutsL; split <;> simp; split <;> simp
theorem cutsL_at (c : UInt8) : ∀ (p r : Bs), (∀ x ∈ p, x ≠ c) → cutsL c (p ++ c :: r) = p :: cutsL c r
  | [], r, _ => by rw [List.nil_append, cutsL]; simp
  | x :: p, r, h => by
    rw [List.cons_append, cutsL, if_neg (h x (by simp)), cutsL_at c p r (fun y hy => h y (by simp [hy]))]
theorem cutsL_end (c : UInt8) : ∀ (p : Bs), (∀ x ∈ p, x ≠ c) → cutsL c p = [p]
  | [], _ => rfl
  | x :: p, h => by
    rw [cutsL, if_neg (h x (by simp)), cutsL_end c p (fun y hy => h y (by simp [hy]))]
theorem cutsL_len (c : UInt8) : ∀ l : Bs, (cutsL c l).length ≤ l.length + 1
  | [] => by simp [cutsL]
  | x :: r => by
    have ih := cutsL_len c r
    rw [cutsL]
    split
    · simp; omega
    · cases h : cutsL c r with
      | nil => simp
      | cons a t => rw [h] at ih; simp at ih ⊢; omega
/-- pieces put together -/
def gluL (c : UInt8) : List Bs → Bs
  | [] => []
  | h :: t => h ++ (t.map (c :: ·)).flatten
theorem glu_cuts (c : UInt8) : ∀ l : Bs, gluL c (cutsL c l) = l
  | [] => rfl
  | x :: r => by
    have ih := glu_cuts c r
    rw [cutsL]
    split
    · rename_i hx
      subst hx
      cases h : cutsL x r with
      | nil => exact absurd h (cutsL_ne _ _)
      | cons a t =>
        rw [h] at ih
        simp only [gluL, List.nil_append, List.map_cons, List.flatten_cons] at ih ⊢
        rw [List.cons_append, ih]
    · cases h : cutsL c r with
      | nil => exact absurd h (cutsL_ne _ _)
      | cons a t =>
        rw [h] at ih
        simp only [gluL, List.cons_append] at ih ⊢
        rw [ih]
theorem cuts_glu (c : UInt8) : ∀ (t : List Bs) (h : Bs), lackB c h → (∀ p ∈ t, lackB c p) → cutsL c (gluL c (h :: t)) = h :: t
  | [], h, hh, _ => by
    simp only [gluL, List.map_nil, List.flatten_nil, List.append_nil]
    exact cutsL_end c h hh
  | a :: t, h, hh, ht => by
    have ih := cuts_glu c t a (ht a (by simp)) (fun p hp => ht p (by simp [hp]))
    simp only [gluL, List.map_cons, List.flatten_cons, List.cons_append] at ih ⊢
    rw [cutsL_at c h _ hh, ih]
theorem cuts_lack (c : UInt8) : ∀ l : Bs, ∀ p ∈ cutsL c l, lackB c p
  | [], p, hp => by
    simp only [cutsL, List.mem_singleton] at hp
    subst hp; intro x hx; cases hx
  | x :: r, p, hp => by
    have ih := cuts_lack c r
    rw [cutsL] at hp
    split at hp
    · rcases List.mem_cons.1 hp with rfl | hp
      · intro x hx; cases hx
      · exact ih p hp
    · rename_i hx
      cases h : cutsL c r with
      | nil => exact absurd h (cutsL_ne _ _)
      | cons a t =>
        rw [h] at hp ih
        rcases List.mem_cons.1 hp with rfl | hp
        · intro y hy
          rcases List.mem_cons.1 hy with rfl | hy
          · exact hx
          · exact ih a (by simp) y hy
        · exact ih p (by simp [hp])
theorem first_at (c : UInt8) : ∀ l : Bs, (∀ x ∈ l, x ≠ c) ∨ ∃ p r, l = p ++ c :: r ∧ ∀ x ∈ p, x ≠ c
  | [] => .inl (fun x hx => by cases hx)
  | x :: r => by
    by_cases hx : x = c
    · exact .inr ⟨[], r, by rw [hx]; rfl, fun y hy => by cases hy⟩
    · rcases first_at c r with h | ⟨p, q, rfl, h⟩
      · refine .inl fun y hy => ?_
        rcases List.mem_cons.1 hy with rfl | hy
        · exact hx
        · exact h y hy
      · refine .inr ⟨x :: p, q, rfl, fun y hy => ?_⟩
        rcases List.mem_cons.1 hy with rfl | hy
        · exact hx
        · exact h y hy
theorem occ_pre (c : UInt8) (p r : Bs) (h : ∀ x ∈ p, x ≠ c) : Lib.NoOcc (p ++ r) [c] p.length := by
  intro j hj
  unfold Lib.occAt
  have e : (p ++ r).drop j = p[j] :: (p.drop (j + 1) ++ r) := by
    rw [List.drop_append_of_le_length (by omega), List.drop_eq_getElem_cons hj]; rfl
  have := h p[j] (List.getElem_mem hj)
  rw [e]
  simp [List.isPrefixOf, Ne.symm this]
theorem index_pre (c : UInt8) (p r : Bs) (h : ∀ x ∈ p, x ≠ c) : Lib.index (p ++ c :: r) [c] = p.length :=
  Lib.index_hit (occ_pre c p _ h) (by simp) (by simp [Lib.occAt, List.isPrefixOf])
theorem index_lack (c : UInt8) (p : Bs) (h : ∀ x ∈ p, x ≠ c) : Lib.index p [c] = -1 := by
  have := occ_pre c p [] h
  rw [List.append_nil] at this
  exact Lib.index_past (by simp) this (by simp)
/-- the library's Split at one byte -/
theorem splitK_cuts (c : UInt8) : ∀ (n : Nat) (l : Bs), l.length ≤ n → Lib.splitK [c] 0 (Lib.count l [c]) l = cutsL c l := by
  intro n
  induction n with
  | zero =>
    intro l hl
    have : l = [] := List.eq_nil_of_length_eq_zero (by omega)
    subst this
    rw [Lib.count_one]; rfl
  | succ n ih =>
    intro l hl
    rcases first_at c l with h | ⟨p, r, rfl, h⟩
    · rw [cutsL_end c l h, Lib.count_miss (index_lack c l h)]; rfl
    · have hi := index_pre c p r h
      have hc : Lib.count (p ++ c :: r) [c] = Lib.count r [c] + 1 := by
        have := Lib.count_hit (s := p ++ c :: r) (sub := [c]) (by simp) hi
        rw [this, Nat.add_comm]
        congr 2
        simp [List.drop_append]
      rw [hc, cutsL_at c p r h, Lib.splitK, hi, if_neg (by simp), ← ih r (by simp at hl; omega)]
      congr 1
      · simp
      · congr 1
        simp [List.drop_append]
end Go.Proofs.YtgplaeopcejmoaaGreatDoor
