/- Plain facts on words: a text's word, and back. No program in sight. Plain facts: a number's text is read as the number; a text cut at a byte, and joined again. No program in sight. -/
import Derived.Lib.Strings
import Derived.Lib.ParseIntBCases
import Derived.Lib.SplitLaws
import Derived.Lib.IndexLaws
import Derived.Lib.ItoaNum
namespace Go.Proofs.YtgplaeopcejmoaaGreatDoor

abbrev Bs := List UInt8

/-- does a byte stand in a word as itself? -/
def plainB (c : UInt8) : Bool := (33 ≤ c && c ≤ 126) && c != 37
def hexd (n : Nat) : UInt8 := if n < 10 then UInt8.ofNat (48 + n) else UInt8.ofNat (87 + n)
def wordB (c : UInt8) : Bs := if plainB c then [c] else [37, hexd (c.toNat / 16), hexd (c.toNat % 16)]
def wordL (l : Bs) : Bs := if l = [] then [37, 45] else l.flatMap wordB
def unhexd (c : UInt8) : Option Nat :=
  if 48 ≤ c.toNat ∧ c.toNat ≤ 57 then some (c.toNat - 48) else if 97 ≤ c.toNat ∧ c.toNat ≤ 102 then some (c.toNat - 87) else none

theorem unhexd_lt {c : UInt8} {n : Nat} (h : unhexd c = some n) : n < 16 := by
  unfold unhexd at h
  split at h
  · cases h; omega
  · split at h
    · cases h; omega
    · cases h
theorem unhexd_hexd {n : Nat} (h : n < 16) : unhexd (hexd n) = some n := by
  have : ∀ k : Fin 16, unhexd (hexd k.val) = some k.val := by decide
  exact this ⟨n, h⟩
theorem hexd_unhexd {c : UInt8} {n : Nat} (h : unhexd c = some n) : hexd n = c := by
  have : ∀ k : Fin 256, ∀ m, unhexd (UInt8.ofNat k.val) = some m → hexd m = UInt8.ofNat k.val := by decide +kernel
  have hc := this ⟨c.toNat, c.toNat_lt⟩ n
  simp only [UInt8.ofNat_toNat] at hc
  exact hc h

/-- the bytes of a text of plain bytes and '%xx' -/
def unwordGo : Bs → Option Bs
  | [] => some []
  | c :: r =>
    if plainB c then (unwordGo r).map (c :: ·)
    else if c = 37 then
      match r with
      | h :: l :: r' =>
        match unhexd h, unhexd l with
        | some a, some b => if plainB (UInt8.ofNat (a * 16 + b)) then none else (unwordGo r').map (UInt8.ofNat (a * 16 + b) :: ·)
        | _, _ => none
      | _ => none
    else none
def unwordL (s : Bs) : Option Bs := if s = [37, 45] then some [] else match unwordGo s with
  | some [] => none
  | r => r

theorem plainB_37 : plainB 37 = false := by decide
theorem div_mod16 (c : UInt8) : UInt8.ofNat (c.toNat / 16 * 16 + c.toNat % 16) = c := by
  rw [show c.toNat / 16 * 16 + c.toNat % 16 = c.toNat by omega]
  exact UInt8.ofNat_toNat

theorem unwordGo_wordB (c : UInt8) (r : Bs) : unwordGo (wordB c ++ r) = (unwordGo r).map (c :: ·) := by
  unfold wordB
  cases h : plainB c
  · have h1 := unhexd_hexd (n := c.toNat / 16) (by have := c.toNat_lt; omega)
    have h2 := unhexd_hexd (n := c.toNat % 16) (by omega)
    simp only [Bool.false_eq_true, if_false, List.cons_append, List.nil_append]
    rw [unwordGo]
    simp only [plainB_37, Bool.false_eq_true, if_false, if_true, h1, h2, div_mod16, h]
  · simp only [if_true, List.cons_append, List.nil_append]
    rw [unwordGo.eq_def]
    simp only [h, if_true]
theorem unwordGo_word : ∀ l : Bs, unwordGo (l.flatMap wordB) = some l
  | [] => rfl
  | c :: l => by rw [List.flatMap_cons, unwordGo_wordB, unwordGo_word l]; rfl

theorem unwordGo_back : ∀ (n : Nat) (s l : Bs), s.length ≤ n → unwordGo s = some l → l.flatMap wordB = s
  | _, [], l, _, h => by
    rw [unwordGo] at h
    cases h; rfl
  | n + 1, c :: r, l, hn, h => by
    rw [unwordGo.eq_def] at h
    simp only at h
    cases hp : plainB c
    · rw [hp] at h
      simp only [Bool.false_eq_true, if_false] at h
      split at h
      · rename_i hc
        subst hc
        split at h
        · rename_i a b r'
          split at h
          · rename_i x y hx hy
            split at h
            · cases h
            · rename_i hnp
              obtain ⟨l', hl', rfl⟩ := Option.map_eq_some_iff.1 h
              have ih := unwordGo_back n r' l' (by simp at hn; omega) hl'
              have hx' := unhexd_lt hx
              have hy' := unhexd_lt hy
              rw [List.flatMap_cons, ih]
              have hnp' : plainB (UInt8.ofNat (x * 16 + y)) = false := by simpa using hnp
              unfold wordB
              rw [hnp']
              have ht : (UInt8.ofNat (x * 16 + y)).toNat = x * 16 + y := by
                rw [UInt8.toNat_ofNat']; omega
              simp only [Bool.false_eq_true, if_false, ht]
              rw [show (x * 16 + y) / 16 = x by omega, show (x * 16 + y) % 16 = y by omega, hexd_unhexd hx, hexd_unhexd hy]
              rfl
          · cases h
        · cases h
      · cases h
    · rw [hp] at h
      simp only [if_true] at h
      obtain ⟨l', hl', rfl⟩ := Option.map_eq_some_iff.1 h
      have ih := unwordGo_back n r l' (by simp at hn; omega) hl'
      rw [List.flatMap_cons, ih]
      unfold wordB
      rw [hp]; rfl

theorem wordB_ne (c : UInt8) : wordB c ≠ [] := by unfold wordB; split <;> simp
theorem word_flat_ne {l : Bs} (h : l ≠ []) : l.flatMap wordB ≠ [] := by
  cases l with
  | nil => exact absurd rfl h
  | cons c l => rw [List.flatMap_cons]; simp [wordB_ne]
theorem unwordGo_special : unwordGo [37, 45] = none := by decide +kernel
theorem word_flat_special (l : Bs) : l.flatMap wordB ≠ [37, 45] := by
  intro h
  have := unwordGo_word l
  rw [h, unwordGo_special] at this
  cases this

/-- a text is read from its word -/
theorem unwordL_word (l : Bs) : unwordL (wordL l) = some l := by
  unfold wordL
  split
  · rename_i h; subst h; rfl
  · rename_i h
    unfold unwordL
    rw [if_neg (word_flat_special l), unwordGo_word]
    cases l with
    | nil => exact absurd rfl h
    | cons c l => rfl
/-- what is read is its text's word -/
theorem wordL_unword {s l : Bs} (h : unwordL s = some l) : wordL l = s := by
  unfold unwordL at h
  split at h
  · rename_i hs; cases h; rw [hs]; rfl
  · cases hg : unwordGo s with
    | none => rw [hg] at h; cases h
    | some l' =>
      rw [hg] at h
      cases l' with
      | nil => cases h
      | cons c l' =>
        cases h
        have := unwordGo_back s.length s _ (Nat.le_refl _) hg
        unfold wordL
        rw [if_neg (by simp)]
        exact this
theorem wordL_inj {a b : Bs} (h : wordL a = wordL b) : a = b := by
  have h1 := unwordL_word a
  rw [h, unwordL_word b] at h1
  injection h1 with h1
  exact h1.symm
theorem wordL_append {a b : Bs} (ha : a ≠ []) (hb : b ≠ []) : wordL (a ++ b) = wordL a ++ wordL b := by
  unfold wordL
  rw [if_neg ha, if_neg hb, if_neg (by simp [ha]), List.flatMap_append]
theorem wordL_ne (l : Bs) : wordL l ≠ [] := by
  unfold wordL
  split
  · simp
  · rename_i h; exact word_flat_ne h
theorem hexd_range {n : Nat} (h : n < 16) : 33 ≤ (hexd n).toNat ∧ (hexd n).toNat ≤ 126 ∧ hexd n ≠ 32 := by
  have : ∀ k : Fin 16, 33 ≤ (hexd k.val).toNat ∧ (hexd k.val).toNat ≤ 126 ∧ hexd k.val ≠ 32 := by decide
  exact this ⟨n, h⟩
theorem wordL_range {l : Bs} {c : UInt8} (h : c ∈ wordL l) : 33 ≤ c.toNat ∧ c.toNat ≤ 126 := by
  unfold wordL at h
  split at h
  · simp at h; rcases h with rfl | rfl <;> decide
  · obtain ⟨d, _, hd⟩ := List.mem_flatMap.1 h
    unfold wordB at hd
    split at hd
    · rename_i hp
      simp at hd
      subst hd
      unfold plainB at hp
      simp only [Bool.and_eq_true, decide_eq_true_eq, UInt8.le_iff_toNat_le] at hp
      exact ⟨hp.1.1, hp.1.2⟩
    · simp at hd
      rcases hd with rfl | rfl | rfl
      · decide
      · have := hexd_range (n := d.toNat / 16) (by have := d.toNat_lt; omega); exact ⟨this.1, this.2.1⟩
      · have := hexd_range (n := d.toNat % 16) (by omega); exact ⟨this.1, this.2.1⟩
theorem wordB_length (c : UInt8) : 1 ≤ (wordB c).length ∧ (wordB c).length ≤ 3 := by unfold wordB; split <;> simp
theorem wordL_length (l : Bs) : (wordL l).length ≤ 3 * l.length + 2 := by
  unfold wordL
  split
  · simp
  · have : ∀ l : Bs, (l.flatMap wordB).length ≤ 3 * l.length := by
      intro l
      induction l with
      | nil => simp
      | cons c l ih => rw [List.flatMap_cons, List.length_append, List.length_cons]; have := wordB_length c; omega
    have := this l
    omega

end Go.Proofs.YtgplaeopcejmoaaGreatDoor
namespace Go.Proofs.YtgplaeopcejmoaaGreatDoor

/-! ### digits -/
def digB (c : UInt8) : Prop := 48 ≤ c.toNat ∧ c.toNat ≤ 57
def valD (acc : Nat) (l : Bs) : Nat := l.foldl (fun a c => a * 10 + (c.toNat - 48)) acc
theorem valD_ge : ∀ (l : Bs) (acc : Nat), acc ≤ valD acc l
  | [], acc => Nat.le_refl _
  | c :: r, acc => by
    have := valD_ge r (acc * 10 + (c.toNat - 48))
    unfold valD at this ⊢
    rw [List.foldl_cons]; omega
theorem parseU_val : ∀ (l : Bs) (acc : Nat), (∀ c ∈ l, digB c) → valD acc l < 18446744073709551616 → Lib.parseUint10 acc l = .ok (valD acc l)
  | [], acc, _, _ => rfl
  | c :: r, acc, hd, hv => by
    have h1 : 48 ≤ c.toNat ∧ c.toNat ≤ 57 := hd c (by simp)
    have hg := valD_ge r (acc * 10 + (c.toNat - 48))
    have hv' : valD (acc * 10 + (c.toNat - 48)) r < 18446744073709551616 := hv
    rw [Lib.parseUint10, if_pos h1, if_neg (by omega), if_neg (by omega), parseU_val r _ (fun x hx => hd x (by simp [hx])) hv']
    rfl
theorem digit_of {d : Nat} (h : d < 10) : digB (UInt8.ofNat (48 + d)) ∧ (UInt8.ofNat (48 + d)).toNat = 48 + d := by
  have e : (UInt8.ofNat (48 + d)).toNat = 48 + d := by rw [UInt8.toNat_ofNat']; omega
  exact ⟨by unfold digB; omega, e⟩
theorem dec_digits (u : Nat) : ∀ c ∈ Lib.decDigits u, digB c := by
  induction u using Nat.strongRecOn with
  | _ u ih =>
    by_cases h : u < 10
    · rw [Lib.decDigits, dif_pos h]
      intro c hc
      simp only [List.mem_singleton] at hc
      rw [hc]; exact (digit_of h).1
    · rw [Lib.decDigits, dif_neg h]
      intro c hc
      rcases List.mem_append.1 hc with hc | hc
      · exact ih (u / 10) (by omega) c hc
      · simp only [List.mem_singleton] at hc
        rw [hc]; exact (digit_of (by omega)).1
theorem dec_val (u : Nat) : valD 0 (Lib.decDigits u) = u := by
  induction u using Nat.strongRecOn with
  | _ u ih =>
    by_cases h : u < 10
    · rw [Lib.decDigits, dif_pos h]
      simp only [valD, List.foldl_cons, List.foldl_nil, (digit_of h).2]; omega
    · rw [Lib.decDigits, dif_neg h]
      have h1 := ih (u / 10) (by omega)
      unfold valD at h1 ⊢
      rw [List.foldl_append, h1, List.foldl_cons, List.foldl_nil, (digit_of (by omega)).2]; omega
theorem dec_ne (u : Nat) : Lib.decDigits u ≠ [] := by
  rw [Lib.decDigits]; split <;> simp
theorem parseMag_dec {u : Nat} (h : u < 18446744073709551616) : Lib.parseMag (Lib.decDigits u) = .ok u := by
  unfold Lib.parseMag
  rw [if_neg (dec_ne u), parseU_val _ _ (dec_digits u) (by rw [dec_val]; exact h), dec_val]
theorem parseB_dec {u : Nat} (h : u < 18446744073709551616) : Lib.parseUintB 64 (Lib.decDigits u) = .ok u := by
  rw [Lib.parseUintB_64]; exact parseMag_dec h
theorem atoi_itoa {n : Int} (h0 : -9223372036854775808 ≤ n) (h1 : n ≤ 9223372036854775807) : Lib.atoiAll (Lib.itoa n) = .ok n := by
  unfold Lib.itoa
  by_cases hn : n < 0
  · rw [if_pos hn, Lib.atoiAll_minus, parseMag_dec (by omega)]
    unfold Lib.signed
    simp only
    rw [if_neg (by omega)]
    congr 1; omega
  · rw [if_neg hn]
    obtain ⟨c, r, hcr⟩ : ∃ c r, Lib.decDigits n.toNat = c :: r := by
      cases h : Lib.decDigits n.toNat with
      | nil => exact absurd h (dec_ne _)
      | cons c r => exact ⟨c, r, rfl⟩
    have hc := dec_digits n.toNat c (by rw [hcr]; simp)
    unfold digB at hc
    have hp := parseMag_dec (u := n.toNat) (by omega)
    rw [hcr] at hp ⊢
    rw [Lib.atoiAll_plain c r (by omega) (by omega), hp]
    unfold Lib.signless
    simp only
    rw [if_neg (by omega)]
    congr 1; omega
/-- does a text lack a byte? -/
def lackB (c : UInt8) (l : Bs) : Prop := ∀ x ∈ l, x ≠ c
theorem lack_dec (u : Nat) : lackB 32 (Lib.decDigits u) ∧ lackB 10 (Lib.decDigits u) := by
  constructor
  all_goals
    intro x hx e
    have := dec_digits u x hx
    subst e
    revert this
    unfold digB
    decide
theorem lack_itoa (n : Int) : lackB 32 (Lib.itoa n) ∧ lackB 10 (Lib.itoa n) := by
  unfold Lib.itoa
  split
  · have h := lack_dec n.natAbs
    refine ⟨fun x hx => ?_, fun x hx => ?_⟩
    · rcases List.mem_cons.1 hx with rfl | hx
      · decide
      · exact h.1 x hx
    · rcases List.mem_cons.1 hx with rfl | hx
      · decide
      · exact h.2 x hx
  · exact lack_dec _
theorem itoa_ne (n : Int) : Lib.itoa n ≠ [] := by
  unfold Lib.itoa; split
  · simp
  · exact dec_ne _
theorem lack_word (l : Bs) : lackB 32 (wordL l) ∧ lackB 10 (wordL l) := by
  constructor
  all_goals
    intro x hx e
    have := wordL_range hx
    subst e
    revert this
    decide

/-! ### pieces -/
/-- the pieces of a text between the bytes c -/
def cutsL (c : UInt8) : Bs → List Bs
  | [] => [[]]
  | x :: r => if x = c then [] :: cutsL c r else match cutsL c r with
    | h :: t => (x :: h) :: t
    | [] => [[x]]
theorem cutsL_ne (c : UInt8) (l : Bs) : cutsL c l ≠ [] := by
  cases l with
  | nil => simp [cutsL]
  | cons x r => unfold cutsL; split <;> simp; split <;> simp
theorem cutsL_at (c : UInt8) : ∀ (p r : Bs), (∀ x ∈ p, x ≠ c) → cutsL c (p ++ c :: r) = p :: cutsL c r
  | [], r, _ => by rw [List.nil_append, cutsL]; simp
  | x :: p, r, h => by
    rw [List.cons_append, cutsL, if_neg (h x (by simp)), cutsL_at c p r (fun y hy => h y (by simp [hy]))]
theorem cutsL_end (c : UInt8) : ∀ (p : Bs), (∀ x ∈ p, x ≠ c) → cutsL c p = [p]
  | [], _ => rfl
  | x :: p, h => by
    rw [cutsL, if_neg (h x (by simp)), cutsL_end c p (fun y hy => h y (by simp [hy]))]
theorem cutsL_len (c : UInt8) : ∀ l : Bs, (cutsL c l).length ≤ l.length + 1
  | [] => by simp [cutsL]
  | x :: r => by
    have ih := cutsL_len c r
    rw [cutsL]
    split
    · simp; omega
    · cases h : cutsL c r with
      | nil => simp
      | cons a t => rw [h] at ih; simp at ih ⊢; omega
/-- pieces put together -/
def gluL (c : UInt8) : List Bs → Bs
  | [] => []
  | h :: t => h ++ (t.map (c :: ·)).flatten
theorem glu_cuts (c : UInt8) : ∀ l : Bs, gluL c (cutsL c l) = l
  | [] => rfl
  | x :: r => by
    have ih := glu_cuts c r
    rw [cutsL]
    split
    · rename_i hx
      subst hx
      cases h : cutsL x r with
      | nil => exact absurd h (cutsL_ne _ _)
      | cons a t =>
        rw [h] at ih
        simp only [gluL, List.nil_append, List.map_cons, List.flatten_cons] at ih ⊢
        rw [List.cons_append, ih]
    · cases h : cutsL c r with
      | nil => exact absurd h (cutsL_ne _ _)
      | cons a t =>
        rw [h] at ih
        simp only [gluL, List.cons_append] at ih ⊢
        rw [ih]
theorem cuts_glu (c : UInt8) : ∀ (t : List Bs) (h : Bs), lackB c h → (∀ p ∈ t, lackB c p) → cutsL c (gluL c (h :: t)) = h :: t
  | [], h, hh, _ => by
    simp only [gluL, List.map_nil, List.flatten_nil, List.append_nil]
    exact cutsL_end c h hh
  | a :: t, h, hh, ht => by
    have ih := cuts_glu c t a (ht a (by simp)) (fun p hp => ht p (by simp [hp]))
    simp only [gluL, List.map_cons, List.flatten_cons, List.cons_append] at ih ⊢
    rw [cutsL_at c h _ hh, ih]
theorem cuts_lack (c : UInt8) : ∀ l : Bs, ∀ p ∈ cutsL c l, lackB c p
  | [], p, hp => by
    simp only [cutsL, List.mem_singleton] at hp
    subst hp; intro x hx; cases hx
  | x :: r, p, hp => by
    have ih := cuts_lack c r
    rw [cutsL] at hp
    split at hp
    · rcases List.mem_cons.1 hp with rfl | hp
      · intro x hx; cases hx
      · exact ih p hp
    · rename_i hx
      cases h : cutsL c r with
      | nil => exact absurd h (cutsL_ne _ _)
      | cons a t =>
        rw [h] at hp ih
        rcases List.mem_cons.1 hp with rfl | hp
        · intro y hy
          rcases List.mem_cons.1 hy with rfl | hy
          · exact hx
          · exact ih a (by simp) y hy
        · exact ih p (by simp [hp])
theorem first_at (c : UInt8) : ∀ l : Bs, (∀ x ∈ l, x ≠ c) ∨ ∃ p r, l = p ++ c :: r ∧ ∀ x ∈ p, x ≠ c
  | [] => .inl (fun x hx => by cases hx)
  | x :: r => by
    by_cases hx : x = c
    · exact .inr ⟨[], r, by rw [hx]; rfl, fun y hy => by cases hy⟩
    · rcases first_at c r with h | ⟨p, q, rfl, h⟩
      · refine .inl fun y hy => ?_
        rcases List.mem_cons.1 hy with rfl | hy
        · exact hx
        · exact h y hy
      · refine .inr ⟨x :: p, q, rfl, fun y hy => ?_⟩
        rcases List.mem_cons.1 hy with rfl | hy
        · exact hx
        · exact h y hy
theorem occ_pre (c : UInt8) (p r : Bs) (h : ∀ x ∈ p, x ≠ c) : Lib.NoOcc (p ++ r) [c] p.length := by
  intro j hj
  unfold Lib.occAt
  have e : (p ++ r).drop j = p[j] :: (p.drop (j + 1) ++ r) := by
    rw [List.drop_append_of_le_length (by omega), List.drop_eq_getElem_cons hj]; rfl
  have := h p[j] (List.getElem_mem hj)
  rw [e]
  simp [List.isPrefixOf, Ne.symm this]
theorem index_pre (c : UInt8) (p r : Bs) (h : ∀ x ∈ p, x ≠ c) : Lib.index (p ++ c :: r) [c] = p.length :=
  Lib.index_hit (occ_pre c p _ h) (by simp) (by simp [Lib.occAt, List.isPrefixOf])
theorem index_lack (c : UInt8) (p : Bs) (h : ∀ x ∈ p, x ≠ c) : Lib.index p [c] = -1 := by
  have := occ_pre c p [] h
  rw [List.append_nil] at this
  exact Lib.index_past (by simp) this (by simp)
/-- the library's Split at one byte -/
theorem splitK_cuts (c : UInt8) : ∀ (n : Nat) (l : Bs), l.length ≤ n → Lib.splitK [c] 0 (Lib.count l [c]) l = cutsL c l := by
  intro n
  induction n with
  | zero =>
    intro l hl
    have : l = [] := List.eq_nil_of_length_eq_zero (by omega)
    subst this
    rw [Lib.count_one]; rfl
  | succ n ih =>
    intro l hl
    rcases first_at c l with h | ⟨p, r, rfl, h⟩
    · rw [cutsL_end c l h, Lib.count_miss (index_lack c l h)]; rfl
    · have hi := index_pre c p r h
      have hc : Lib.count (p ++ c :: r) [c] = Lib.count r [c] + 1 := by
        have := Lib.count_hit (s := p ++ c :: r) (sub := [c]) (by simp) hi
        rw [this, Nat.add_comm]
        congr 2
        simp [List.drop_append]
      rw [hc, cutsL_at c p r h, Lib.splitK, hi, if_neg (by simp), ← ih r (by simp at hl; omega)]
      congr 1
      · simp
      · congr 1
        simp [List.drop_append]
end Go.Proofs.YtgplaeopcejmoaaGreatDoor
