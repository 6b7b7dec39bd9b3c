/- Plain facts on words: a text's word, and back. No program in sight. -/
import Derived.Lib.Strings
namespace Go.Proofs.YtgplaeopcejmoaaGreatDoor

abbrev Bs := List UInt8

/-- does a byte stand in a word as itself? -/
def plainB (c : UInt8) : Bool := (33 ≤ c && c ≤ 126) && c != 37
def hexd (n : Nat) : UInt8 := if n < 10 then UInt8.ofNat (48 + n) else UInt8.ofNat (87 + n)
def wordB (c : UInt8) : Bs := if plainB c then [c] else [37, hexd (c.toNat / 16), hexd (c.toNat % 16)]
def wordL (l : Bs) : Bs := if l = [] then [37, 45] else l.flatMap wordB
def unhexd (c : UInt8) : Option Nat :=
  if 48 ≤ c.toNat ∧ c.toNat ≤ 57 then some (c.toNat - 48) else if 97 ≤ c.toNat ∧ c.toNat ≤ 102 then some (c.toNat - 87) else none

theorem unhexd_lt {c : UInt8} {n : Nat} (h : unhexd c = some n) : n < 16 := by
  unfold unhexd at h
  split at h
  · cases h; omega
  · split at h
    · cases h; omega
    · cases h
theorem unhexd_hexd {n : Nat} (h : n < 16) : unhexd (hexd n) = some n := by
  have : ∀ k : Fin 16, unhexd (hexd k.val) = some k.val := by decide
  exact this ⟨n, h⟩
theorem hexd_unhexd {c : UInt8} {n : Nat} (h : unhexd c = some n) : hexd n = c := by
  have : ∀ k : Fin 256, ∀ m, unhexd (UInt8.ofNat k.val) = some m → hexd m = UInt8.ofNat k.val := by decide +kernel
  have hc := this ⟨c.toNat, c.toNat_lt⟩ n
  simp only [UInt8.ofNat_toNat] at hc
  exact hc h

/-- the bytes of a text of plain bytes and '%xx' -/
def unwordGo : Bs → Option Bs
  | [] => some []
  | c :: r =>
    if plainB c then (unwordGo r).map (c :: ·)
    else if c = 37 then
      match r with
      | h :: l :: r' =>
        match unhexd h, unhexd l with
        | some a, some b => if plainB (UInt8.ofNat (a * 16 + b)) then none else (unwordGo r').map (UInt8.ofNat (a * 16 + b) :: ·)
        | _, _ => none
      | _ => none
    else none
def unwordL (s : Bs) : Option Bs := if s = [37, 45] then some [] else match unwordGo s with
  | some [] => none
  | r => r

theorem plainB_37 : plainB 37 = false := by decide
theorem div_mod16 (c : UInt8) : UInt8.ofNat (c.toNat / 16 * 16 + c.toNat % 16) = c := by
  rw [show c.toNat / 16 * 16 + c.toNat % 16 = c.toNat by omega]
  exact UInt8.ofNat_toNat

theorem unwordGo_wordB (c : UInt8) (r : Bs) : unwordGo (wordB c ++ r) = (unwordGo r).map (c :: ·) := by
  unfold wordB
  cases h : plainB c
  · have h1 := unhexd_hexd (n := c.toNat / 16) (by have := c.toNat_lt; omega)
    have h2 := unhexd_hexd (n := c.toNat % 16) (by omega)
    simp only [Bool.false_eq_true, if_false, List.cons_append, List.nil_append]
    rw [unwordGo]
    simp only [plainB_37, Bool.false_eq_true, if_false, if_true, h1, h2, div_mod16, h]
  · simp only [if_true, List.cons_append, List.nil_append]
    rw [unwordGo.eq_def]
    simp only [h, if_true]
theorem unwordGo_word : ∀ l : Bs, unwordGo (l.flatMap wordB) = some l
  | [] => rfl
  | c :: l => by rw [List.flatMap_cons, unwordGo_wordB, unwordGo_word l]; rfl

theorem unwordGo_back : ∀ (n : Nat) (s l : Bs), s.length ≤ n → unwordGo s = some l → l.flatMap wordB = s
  | _, [], l, _, h => by
    rw [unwordGo] at h
    cases h; rfl
  | n + 1, c :: r, l, hn, h => by
    rw [unwordGo.eq_def] at h
    simp only at h
    cases hp : plainB c
    · rw [hp] at h
      simp only [Bool.false_eq_true, if_false] at h
      split at h
      · rename_i hc
        subst hc
        split at h
        · rename_i a b r'
          split at h
          · rename_i x y hx hy
            split at h
            · cases h
            · rename_i hnp
              obtain ⟨l', hl', rfl⟩ := Option.map_eq_some_iff.1 h
              have ih := unwordGo_back n r' l' (by simp at hn; omega) hl'
              have hx' := unhexd_lt hx
              have hy' := unhexd_lt hy
              rw [List.flatMap_cons, ih]
              have hnp' : plainB (UInt8.ofNat (x * 16 + y)) = false := by simpa using hnp
              unfold wordB
              rw [hnp']
              have ht : (UInt8.ofNat (x * 16 + y)).toNat = x * 16 + y := by
                rw [UInt8.toNat_ofNat']; omega
              simp only [Bool.false_eq_true, if_false, ht]
              rw [show (x * 16 + y) / 16 = x by omega, show (x * 16 + y) % 16 = y by omega, hexd_unhexd hx, hexd_unhexd hy]
              rfl
          · cases h
        · cases h
      · cases h
    · rw [hp] at h
      simp only [if_true] at h
      obtain ⟨l', hl', rfl⟩ := Option.map_eq_some_iff.1 h
      have ih := unwordGo_back n r l' (by simp at hn; omega) hl'
      rw [List.flatMap_cons, ih]
      unfold wordB
      rw [hp]; rfl

theorem wordB_ne (c : UInt8) : wordB c ≠ [] := by unfold wordB; split <;> simp
theorem word_flat_ne {l : Bs} (h : l ≠ []) : l.flatMap wordB ≠ [] := by
  cases l with
  | nil => exact absurd rfl h
  | cons c l => rw [List.flatMap_cons]; simp [wordB_ne]
theorem unwordGo_special : unwordGo [37, 45] = none := by decide +kernel
theorem word_flat_special (l : Bs) : l.flatMap wordB ≠ [37, 45] := by
  intro h
  have := unwordGo_word l
  rw [h, unwordGo_special] at this
  cases this

/-- a text is read from its word -/
theorem unwordL_word (l : Bs) : unwordL (wordL l) = some l := by
  unfold wordL
  split
  · rename_i h; subst h; rfl
  · rename_i h
    unfold unwordL
    rw [if_neg (word_flat_special l), unwordGo_word]
    cases l with
    | nil => exact absurd rfl h
    | cons c l => rfl
/-- what is read is its text's word -/
theorem wordL_unword {s l : Bs} (h : unwordL s = some l) : wordL l = s := by
  unfold unwordL at h
  split at h
  · rename_i hs; cases h; rw [hs]; rfl
  · cases hg : unwordGo s with
    | none => rw [hg] at h; cases h
    | some l' =>
      rw [hg] at h
      cases l' with
      | nil => cases h
      | cons c l' =>
        cases h
        have := unwordGo_back s.length s _ (Nat.le_refl _) hg
        unfold wordL
        rw [if_neg (by simp)]
        exact this
theorem wordL_inj {a b : Bs} (h : wordL a = wordL b) : a = b := by
  have h1 := unwordL_word a
  rw [h, unwordL_word b] at h1
  injection h1 with h1
  exact h1.symm
theorem wordL_append {a b : Bs} (ha : a ≠ []) (hb : b ≠ []) : wordL (a ++ b) = wordL a ++ wordL b := by
  unfold wordL
  rw [if_neg ha, if_neg hb, if_neg (by simp [ha]), List.flatMap_append]
theorem wordL_ne (l : Bs) : wordL l ≠ [] := by
  unfold wordL
  split
  · simp
  · rename_i h; exact word_flat_ne h
theorem hexd_range {n : Nat} (h : n < 16) : 33 ≤ (hexd n).toNat ∧ (hexd n).toNat ≤ 126 ∧ hexd n ≠ 32 := by
  have : ∀ k : Fin 16, 33 ≤ (hexd k.val).toNat ∧ (hexd k.val).toNat ≤ 126 ∧ hexd k.val ≠ 32 := by decide
  exact this ⟨n, h⟩
theorem wordL_range {l : Bs} {c : UInt8} (h : c ∈ wordL l) : 33 ≤ c.toNat ∧ c.toNat ≤ 126 := by
  unfold wordL at h
  split at h
  · simp at h; rcases h with rfl | rfl <;> decide
  · obtain ⟨d, _, hd⟩ := List.mem_flatMap.1 h
    unfold wordB at hd
    split at hd
    · rename_i hp
      simp at hd
      subst hd
      unfold plainB at hp
      simp only [Bool.and_eq_true, decide_eq_true_eq, UInt8.le_iff_toNat_le] at hp
      exact ⟨hp.1.1, hp.1.2⟩
    · simp at hd
      rcases hd with rfl | rfl | rfl
      · decide
      · have := hexd_range (n := d.toNat / 16) (by have := d.toNat_lt; omega); exact ⟨this.1, this.2.1⟩
      · have := hexd_range (n := d.toNat % 16) (by omega); exact ⟨this.1, this.2.1⟩
theorem wordB_length (c : UInt8) : 1 ≤ (wordB c).length ∧ (wordB c).length ≤ 3 := by unfold wordB; split <;> simp
theorem wordL_length (l : Bs) : (wordL l).length ≤ 3 * l.length + 2 := by
  unfold wordL
  split
  · simp
  · have : ∀ l : Bs, (l.flatMap wordB).length ≤ 3 * l.length := by
      intro l
      induction l with
      | nil => simp
      | cons c l ih => rw [List.flatMap_cons, List.length_append, List.length_cons]; have := wordB_length c; omega
    have := this l
    omega

end Go.Proofs.YtgplaeopcejmoaaGreatDoor
