/- Plain facts on tables: sorted lists of pairs, one write, get, scan. No program in sight. -/
import GoSem.Op.String
import Derived.Lib.Strings
namespace Go.Proofs.Ytjgkiecepjlheaa
open Go

abbrev Pr := ByteArray × ByteArray
abbrev Wr := ByteArray × ByteArray × Bool

theorem bl_irrefl : ∀ x : List UInt8, Op.bytesLess x x = false
  | [] => rfl
  | a :: x => by simp [Op.bytesLess, bl_irrefl x]

theorem bl_trans : ∀ x y z : List UInt8, Op.bytesLess x y = true → Op.bytesLess y z = true → Op.bytesLess x z = true
  | _, [], _, h, _ => by simp [Op.bytesLess] at h
  | _, _ :: _, [], _, h => by simp [Op.bytesLess] at h
  | [], _ :: _, _ :: _, _, _ => rfl
  | a :: x, b :: y, c :: z, h, k => by
    simp only [Op.bytesLess, Bool.or_eq_true, decide_eq_true_eq, Bool.and_eq_true, beq_iff_eq] at h k ⊢
    rcases h with h | ⟨rfl, h⟩
    · rcases k with k | ⟨rfl, k⟩
      · exact .inl (UInt8.lt_trans h k)
      · exact .inl h
    · rcases k with k | ⟨rfl, k⟩
      · exact .inl k
      · exact .inr ⟨rfl, bl_trans _ _ _ h k⟩

theorem bl_total : ∀ x y : List UInt8, Op.bytesLess x y = false → (x == y) = false → Op.bytesLess y x = true
  | [], [], _, h => by simp at h
  | [], _ :: _, h, _ => by simp [Op.bytesLess] at h
  | _ :: _, [], _, _ => rfl
  | a :: x, b :: y, h, k => by
    simp only [Op.bytesLess, Bool.or_eq_false_iff, decide_eq_false_iff_not, Bool.and_eq_false_imp, beq_iff_eq] at h
    simp only [Op.bytesLess, Bool.or_eq_true, decide_eq_true_eq, Bool.and_eq_true, beq_iff_eq]
    by_cases e : a = b
    · subst e
      refine .inr ⟨rfl, bl_total _ _ (h.2 rfl) ?_⟩
      simpa using k
    · left
      have h1 := h.1
      simp only [UInt8.lt_iff_toNat_lt, Nat.not_lt] at h1 ⊢
      have : a.toNat ≠ b.toNat := fun e' => e (UInt8.toNat_inj.1 e')
      omega

def ltB (a b : ByteArray) : Bool := Op.bytesLess a.toList b.toList
def eqB (a b : ByteArray) : Bool := a.toList == b.toList

theorem eqB_iff {a b : ByteArray} : eqB a b = true ↔ a = b := by
  unfold eqB
  rw [beq_iff_eq]
  constructor
  · intro h
    simp only [Lib.toList_data] at h
    cases a; cases b
    simpa using h
  · rintro rfl; rfl

theorem eqB_refl (a : ByteArray) : eqB a a = true := eqB_iff.2 rfl
theorem ltB_irrefl (a : ByteArray) : ltB a a = false := bl_irrefl _
theorem ltB_trans {a b c : ByteArray} (h : ltB a b = true) (k : ltB b c = true) : ltB a c = true := bl_trans _ _ _ h k
theorem ltB_total {a b : ByteArray} (h : ltB a b = false) (k : eqB a b = false) : ltB b a = true := bl_total _ _ h k
theorem ltB_asymm {a b : ByteArray} (h : ltB a b = true) : ltB b a = false := by
  cases k : ltB b a
  · rfl
  · exact absurd (ltB_trans h k) (by simp [ltB_irrefl])
theorem eqB_false_of_lt {a b : ByteArray} (h : ltB a b = true) : eqB a b = false := by
  cases k : eqB a b
  · rfl
  · rw [eqB_iff.1 k, ltB_irrefl] at h; cases h
theorem eqB_comm (a b : ByteArray) : eqB a b = eqB b a := by
  cases h : eqB a b <;> cases k : eqB b a
  · rfl
  · rw [eqB_iff.1 k, eqB_refl] at h; cases h
  · rw [eqB_iff.1 h, eqB_refl] at k; cases k
  · rfl

/-- rising keys, each once -/
def Srt (t : List Pr) : Prop := t.Pairwise fun p q => ltB p.1 q.1 = true

def pos (t : List Pr) (k : ByteArray) : Nat := (t.takeWhile fun p => ltB p.1 k).length
def tailT (k : ByteArray) : List Pr → List Pr
  | [] => []
  | p :: r => if eqB p.1 k then r else p :: r
theorem tailT_cons (k : ByteArray) (p : Pr) (r : List Pr) : tailT k (p :: r) = if eqB p.1 k then r else p :: r := rfl
/-- a table behind one write -/
def stepT (t : List Pr) (w : Wr) : List Pr := t.take (pos t w.1) ++ ((if w.2.2 then [] else [(w.1, w.2.1)]) ++ tailT w.1 (t.drop (pos t w.1)))
def hasT (t : List Pr) (k : ByteArray) : Bool := match t.drop (pos t k) with | [] => false | p :: _ => eqB p.1 k

theorem pos_le (t : List Pr) (k : ByteArray) : pos t k ≤ t.length := (List.takeWhile_prefix _).length_le

theorem take_pos (t : List Pr) (k : ByteArray) : t.take (pos t k) = t.takeWhile fun p => ltB p.1 k := by
  have := List.takeWhile_prefix (p := fun p : Pr => ltB p.1 k) (l := t)
  exact (List.prefix_iff_eq_take.1 this).symm

theorem drop_pos (t : List Pr) (k : ByteArray) : t.drop (pos t k) = t.dropWhile fun p => ltB p.1 k := by
  have h := List.takeWhile_append_dropWhile (p := fun p : Pr => ltB p.1 k) (l := t)
  have e : t.drop (pos t k) = (t.takeWhile (fun p => ltB p.1 k) ++ t.dropWhile fun p => ltB p.1 k).drop (pos t k) := by rw [h]
  rw [e]
  exact List.drop_left

theorem lt_of_lt_pos {t : List Pr} {k : ByteArray} {j : Nat} {p : Pr} (h : t[j]? = some p) (hj : j < pos t k) : ltB p.1 k = true := by
  have h2 : (t.take (pos t k))[j]? = some p := by rw [List.getElem?_take, if_pos hj]; exact h
  rw [take_pos] at h2
  have hm := List.mem_of_getElem? h2
  exact (List.all_eq_true.1 (List.all_takeWhile (p := fun p : Pr => ltB p.1 k) (l := t)) p hm)

theorem not_lt_at_pos {t : List Pr} {k : ByteArray} {p : Pr} (h : t[pos t k]? = some p) : ltB p.1 k = false := by
  have h2 : (t.drop (pos t k))[0]? = some p := by simpa using h
  rw [drop_pos] at h2
  cases hd : t.dropWhile (fun p => ltB p.1 k) with
  | nil => rw [hd] at h2; simp at h2
  | cons q r =>
    rw [hd] at h2
    simp at h2
    subst h2
    have := List.head?_dropWhile_not (fun p : Pr => ltB p.1 k) t
    rw [hd] at this
    simpa using this

/-- a place is the key's if all ahead of it are below, and the one there is not -/
theorem pos_of {t : List Pr} {k : ByteArray} {i : Nat} (hi : i ≤ t.length) (h1 : ∀ j p, j < i → t[j]? = some p → ltB p.1 k = true)
    (h2 : ∀ p, t[i]? = some p → ltB p.1 k = false) : pos t k = i := by
  rcases Nat.lt_trichotomy (pos t k) i with h | h | h
  · have hl : pos t k < t.length := by omega
    have e := List.getElem?_eq_getElem hl
    have := h1 _ _ h e
    rw [not_lt_at_pos e] at this
    cases this
  · exact h
  · have hl : i < t.length := by have := pos_le t k; omega
    have e := List.getElem?_eq_getElem hl
    have a := lt_of_lt_pos e h
    rw [h2 _ e] at a
    cases a

theorem srt_get {t : List Pr} (hs : Srt t) {i j : Nat} {p q : Pr} (hij : i < j) (hi : t[i]? = some p) (hj : t[j]? = some q) : ltB p.1 q.1 = true := by
  obtain ⟨hi', rfl⟩ := List.getElem?_eq_some_iff.1 hi
  obtain ⟨hj', rfl⟩ := List.getElem?_eq_some_iff.1 hj
  exact List.pairwise_iff_getElem.1 hs i j hi' hj' hij

/-- behind the place none is below -/
theorem not_lt_behind {t : List Pr} (hs : Srt t) {k : ByteArray} {i j : Nat} {p q : Pr} (hij : i ≤ j) (hi : t[i]? = some p) (hp : ltB p.1 k = false) (hj : t[j]? = some q) : ltB q.1 k = false := by
  rcases Nat.lt_or_ge i j with h | h
  · cases e : ltB q.1 k
    · rfl
    · have := ltB_trans (srt_get hs h hi hj) e
      rw [hp] at this; cases this
  · have : i = j := by omega
    subst this
    rw [hi] at hj; cases hj; exact hp

/-- ahead of one that is below all are -/
theorem lt_ahead {t : List Pr} (hs : Srt t) {k : ByteArray} {i j : Nat} {p q : Pr} (hij : j ≤ i) (hi : t[i]? = some p) (hp : ltB p.1 k = true) (hj : t[j]? = some q) : ltB q.1 k = true := by
  rcases Nat.lt_or_ge j i with h | h
  · exact ltB_trans (srt_get hs h hj hi) hp
  · have : i = j := by omega
    subst this
    rw [hi] at hj; cases hj; exact hp

theorem hasT_iff {t : List Pr} {k : ByteArray} : hasT t k = true ↔ ∃ p, t[pos t k]? = some p ∧ p.1 = k := by
  unfold hasT
  have e : t[pos t k]? = (t.drop (pos t k))[0]? := by simp
  rw [e]
  cases t.drop (pos t k) with
  | nil => simp
  | cons p r => simp [eqB_iff]

theorem mem_tailT {k : ByteArray} {l : List Pr} {p : Pr} (h : p ∈ tailT k l) : p ∈ l := by
  cases l with
  | nil => simp [tailT] at h
  | cons q r =>
    rw [tailT_cons] at h
    split at h
    · exact List.mem_cons_of_mem _ h
    · exact h

theorem srt_tailT {k : ByteArray} {l : List Pr} (h : Srt l) : Srt (tailT k l) := by
  cases l with
  | nil => exact h
  | cons q r =>
    rw [tailT_cons]
    split
    · exact (List.pairwise_cons.1 h).2
    · exact h

theorem tail_above {t : List Pr} (hs : Srt t) {k : ByteArray} {p : Pr} (h : p ∈ tailT k (t.drop (pos t k))) : ltB k p.1 = true := by
  obtain ⟨j, hj⟩ := List.getElem?_of_mem (mem_tailT h)
  have hj' : t[pos t k + j]? = some p := by simpa using hj
  have hl : pos t k + j < t.length := (List.getElem?_eq_some_iff.1 hj').1
  have e0 := List.getElem?_eq_getElem (l := t) (i := pos t k) (by omega)
  have hnl := not_lt_behind hs (Nat.le_add_right _ j) e0 (not_lt_at_pos e0) hj'
  refine ltB_total hnl ?_
  cases hq : eqB p.1 k
  · rfl
  · exfalso
    have hpk := eqB_iff.1 hq
    cases hd : t.drop (pos t k) with
    | nil => rw [hd] at h; simp [tailT] at h
    | cons q r =>
      have hs' : Srt (q :: r) := by rw [← hd]; exact hs.sublist (List.drop_sublist _ _)
      rw [hd] at h
      rw [tailT_cons] at h
      have hr := (List.pairwise_cons.1 hs').1
      split at h
      · rename_i hqe
        have := hr p h
        rw [eqB_iff.1 hqe, hpk, ltB_irrefl] at this
        cases this
      · rename_i hqe
        rcases List.mem_cons.1 h with rfl | h
        · exact hqe hq
        · have h1 := hr p h
          rw [hpk] at h1
          have h0 : t[pos t k]? = some q := by
            have : (t.drop (pos t k))[0]? = some q := by rw [hd]; rfl
            simpa using this
          rw [not_lt_at_pos h0] at h1
          cases h1

theorem srt_stepT {t : List Pr} (hs : Srt t) (w : Wr) : Srt (stepT t w) := by
  unfold stepT Srt
  refine List.pairwise_append.2 ⟨hs.sublist (List.take_sublist _ _), List.pairwise_append.2 ⟨?_, srt_tailT (hs.sublist (List.drop_sublist _ _)), ?_⟩, ?_⟩
  · split
    · exact .nil
    · exact List.pairwise_singleton _ _
  · intro a ha b hb
    split at ha
    · cases ha
    · simp at ha
      subst ha
      exact tail_above hs hb
  · intro a ha b hb
    rw [take_pos] at ha
    have ha' : ltB a.1 w.1 = true := List.all_eq_true.1 (List.all_takeWhile (p := fun p : Pr => ltB p.1 w.1) (l := t)) a ha
    rcases List.mem_append.1 hb with hb | hb
    · split at hb
      · cases hb
      · simp at hb
        subst hb
        exact ha'
    · exact ltB_trans ha' (tail_above hs hb)

/-- a table behind writes -/
def stepsT (t : List Pr) (l : List Wr) : List Pr := l.foldl stepT t
theorem srt_stepsT {t : List Pr} (hs : Srt t) (l : List Wr) : Srt (stepsT t l) := by
  induction l generalizing t with
  | nil => exact hs
  | cons w l ih => exact ih (srt_stepT hs w)

theorem length_stepT (t : List Pr) (w : Wr) : (stepT t w).length ≤ t.length + 1 := by
  unfold stepT
  have h1 := pos_le t w.1
  have h2 : (tailT w.1 (t.drop (pos t w.1))).length ≤ t.length - pos t w.1 := by
    rw [← List.length_drop]
    cases t.drop (pos t w.1) with
    | nil => simp [tailT]
    | cons p r => rw [tailT_cons]; split <;> simp
  simp only [List.length_append, List.length_take]
  split <;> simp <;> omega
theorem length_stepsT (l : List Wr) : ∀ t : List Pr, (stepsT t l).length ≤ t.length + l.length := by
  induction l with
  | nil => intro t; simp [stepsT]
  | cons w l ih =>
    intro t
    have h := ih (stepT t w)
    have k := length_stepT t w
    simp only [stepsT, List.foldl_cons, List.length_cons] at h ⊢
    omega

/- the three ways of model.write -/
theorem stepT_delete {t : List Pr} {k v : ByteArray} (h : hasT t k = true) : stepT t (k, v, true) = t.take (pos t k) ++ t.drop (pos t k + 1) := by
  unfold stepT hasT at *
  have e : t.drop (pos t k + 1) = (t.drop (pos t k)).drop 1 := by rw [List.drop_drop]
  rw [e]
  cases hd : t.drop (pos t k) with
  | nil => rw [hd] at h; cases h
  | cons p r =>
    rw [hd] at h
    simp [tailT, h]
theorem stepT_gone {t : List Pr} {k v : ByteArray} (h : hasT t k = false) : stepT t (k, v, true) = t := by
  unfold stepT hasT at *
  have : tailT k (t.drop (pos t k)) = t.drop (pos t k) := by
    cases hd : t.drop (pos t k) with
    | nil => rfl
    | cons p r =>
      rw [hd] at h
      simp at h
      simp [tailT, h]
  simp [this]
theorem stepT_set {t : List Pr} {k v : ByteArray} (h : hasT t k = true) : stepT t (k, v, false) = t.take (pos t k) ++ (k, v) :: t.drop (pos t k + 1) := by
  unfold stepT hasT at *
  have e : t.drop (pos t k + 1) = (t.drop (pos t k)).drop 1 := by rw [List.drop_drop]
  rw [e]
  cases hd : t.drop (pos t k) with
  | nil => rw [hd] at h; cases h
  | cons p r =>
    rw [hd] at h
    simp [tailT, h]
theorem stepT_insert {t : List Pr} {k v : ByteArray} (h : hasT t k = false) : stepT t (k, v, false) = t.take (pos t k) ++ (k, v) :: t.drop (pos t k) := by
  unfold stepT hasT at *
  have : tailT k (t.drop (pos t k)) = t.drop (pos t k) := by
    cases hd : t.drop (pos t k) with
    | nil => rfl
    | cons p r =>
      rw [hd] at h
      simp at h
      simp [tailT, h]
  simp [this]

/-- the pair of a key -/
def getT (t : List Pr) (k : ByteArray) : Option ByteArray := (t.find? fun p => eqB p.1 k).map (·.2)

theorem getT_of_has {t : List Pr} {k : ByteArray} {p : Pr} (h : t[pos t k]? = some p) (hp : p.1 = k) : getT t k = some p.2 := by
  unfold getT
  have : t.find? (fun p => eqB p.1 k) = some p := by
    rw [List.find?_eq_some_iff_getElem]
    obtain ⟨hl, he⟩ := List.getElem?_eq_some_iff.1 h
    refine ⟨eqB_iff.2 hp, pos t k, hl, he, fun j hj => ?_⟩
    have e := List.getElem?_eq_getElem (l := t) (i := j) (by omega)
    have := eqB_false_of_lt (lt_of_lt_pos e hj)
    simp [this]
  rw [this]; rfl
theorem getT_of_not {t : List Pr} (hs : Srt t) {k : ByteArray} (h : hasT t k = false) : getT t k = none := by
  unfold getT
  have : t.find? (fun p => eqB p.1 k) = none := by
    rw [List.find?_eq_none]
    intro p hp hk
    have hk' := eqB_iff.1 (by simpa using hk)
    obtain ⟨j, hj⟩ := List.getElem?_of_mem hp
    have hl : j < t.length := (List.getElem?_eq_some_iff.1 hj).1
    have nl : ¬ j < pos t k := fun hlt => by
      have := lt_of_lt_pos hj hlt
      rw [hk', ltB_irrefl] at this; cases this
    have e0 := List.getElem?_eq_getElem (l := t) (i := pos t k) (by omega)
    have h0 := not_lt_at_pos e0
    rcases Nat.lt_or_ge (pos t k) j with hlt | hge
    · have := srt_get hs hlt e0 hj
      rw [hk', h0] at this; cases this
    · have : j = pos t k := by omega
      subst this
      have : hasT t k = true := hasT_iff.2 ⟨p, hj, hk'⟩
      rw [h] at this; cases this
  rw [this]; rfl

/-- what stands between two keys -/
def inT (a b : ByteArray) (p : Pr) : Bool := !ltB p.1 a && (b.toList.isEmpty || ltB p.1 b)
def scanT (t : List Pr) (a b : ByteArray) : List Pr := t.filter (inT a b)

theorem filter_between (t : List Pr) (f : Pr → Bool) (i j : Nat) (h : ∀ n p, t[n]? = some p → (f p = true ↔ i ≤ n ∧ n < j)) : t.filter f = (t.take j).drop i := by
  induction t generalizing i j with
  | nil => simp
  | cons p t ih =>
    have h0 := h 0 p rfl
    have ht : ∀ n q, t[n]? = some q → (f q = true ↔ i - 1 ≤ n ∧ n < j - 1) := by
      intro n q hq
      have := h (n + 1) q (by simpa using hq)
      rw [this]; omega
    rw [List.filter_cons, ih _ _ ht]
    cases j with
    | zero =>
      have : f p = false := by
        cases e : f p
        · rfl
        · have := h0.1 e; omega
      simp [this]
    | succ j =>
      cases i with
      | zero =>
        have : f p = true := h0.2 (by omega)
        simp [this]
      | succ i =>
        have : f p = false := by
          cases e : f p
          · rfl
          · have := h0.1 e; omega
        simp [this]

theorem lt_pos_iff {t : List Pr} (hs : Srt t) {k : ByteArray} {n : Nat} {p : Pr} (h : t[n]? = some p) : n < pos t k ↔ ltB p.1 k = true := by
  constructor
  · exact lt_of_lt_pos h
  · intro hl
    rcases Nat.lt_or_ge n (pos t k) with hlt | hge
    · exact hlt
    · have hn : n < t.length := (List.getElem?_eq_some_iff.1 h).1
      have e0 := List.getElem?_eq_getElem (l := t) (i := pos t k) (by omega)
      have := not_lt_behind hs hge e0 (not_lt_at_pos e0) h
      rw [hl] at this; cases this

theorem scanT_eq {t : List Pr} (hs : Srt t) (a b : ByteArray) :
    scanT t a b = (t.take (if b.toList.isEmpty then t.length else pos t b)).drop (pos t a) := by
  refine filter_between t _ _ _ fun n p h => ?_
  have hn : n < t.length := (List.getElem?_eq_some_iff.1 h).1
  have ha := lt_pos_iff hs (k := a) h
  have hb := lt_pos_iff hs (k := b) h
  unfold inT
  by_cases e : b.toList.isEmpty = true
  · simp only [e, if_true, Bool.true_or, Bool.and_true]
    cases k : ltB p.1 a
    · have : ¬ n < pos t a := fun x => by rw [ha.1 x] at k; cases k
      simp; omega
    · have := ha.2 k
      simp; omega
  · simp only [e, Bool.false_eq_true, if_false, Bool.false_or]
    cases k : ltB p.1 a <;> cases l : ltB p.1 b
    · have : ¬ n < pos t b := fun x => by rw [hb.1 x] at l; cases l
      simp; omega
    · have := hb.2 l
      have : ¬ n < pos t a := fun x => by rw [ha.1 x] at k; cases k
      simp; omega
    · have := ha.2 k
      simp; omega
    · have := ha.2 k
      simp; omega

/-- the table behind commits: nothing, and what each wrote -/
def tableT (l : List (List Wr)) : List Pr := l.foldl stepsT []
theorem srt_tableT (l : List (List Wr)) : Srt (tableT l) := by
  unfold tableT
  suffices h : ∀ t, Srt t → Srt (l.foldl stepsT t) from h [] .nil
  induction l with
  | nil => intro t h; exact h
  | cons w l ih => intro t h; exact ih _ (srt_stepsT h w)

end Go.Proofs.Ytjgkiecepjlheaa
