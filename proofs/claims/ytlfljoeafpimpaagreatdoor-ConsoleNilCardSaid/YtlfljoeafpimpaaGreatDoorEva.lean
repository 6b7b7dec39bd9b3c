/- An evaluator for closed runs: tries; abstract values, cells, objects; what they stand for in a world. Any program. -/
import Derived.WalkKit
import Derived.OrdersHeld
import Derived.Deep.MidRow
import Derived.Laws.AppendOwn
import Derived.OwnWalk
import Derived.Test.YtlfljoeafpimpaaGreatDoorProg
namespace Go.Proofs.YtlfljoeafpimpaaGreatDoor

/-! ### tries -/
inductive Tr (α : Type) where
  | nil
  | leaf (a : α)
  | node (l r : Tr α)
namespace Tr
variable {α : Type}
def lf (t : Tr α) : Tr α := Tr.casesOn t .nil (fun _ => .nil) (fun l _ => l)
def rt (t : Tr α) : Tr α := Tr.casesOn t .nil (fun _ => .nil) (fun _ r => r)
def val (t : Tr α) (i : Nat) : Option α := Tr.casesOn t none (fun a => Nat.casesOn i (some a) (fun _ => none)) (fun _ _ => none)
def half (i : Nat) (a b : Tr α) : Tr α := Nat.casesOn (i % 2) a (fun _ => b)
/-- the place number i in a trie of depth d -/
def get (d : Nat) : Tr α → Nat → Option α :=
  Nat.rec (motive := fun _ => Tr α → Nat → Option α) (fun t i => val t i) (fun _ ih t i => ih (half i (lf t) (rt t)) (i / 2)) d
def set (d : Nat) : Tr α → Nat → Tr α → Tr α :=
  Nat.rec (motive := fun _ => Tr α → Nat → Tr α → Tr α) (fun _ _ a => a)
    (fun _ ih t i a => Nat.casesOn (i % 2) (.node (ih (lf t) (i / 2) a) (rt t)) (fun _ => .node (lf t) (ih (rt t) (i / 2) a))) d
theorem get_zero (t : Tr α) (i : Nat) : get 0 t i = val t i := rfl
theorem get_succ' (d : Nat) (t : Tr α) (i : Nat) : get (d + 1) t i = get d (half i (lf t) (rt t)) (i / 2) := rfl
theorem set_succ (d : Nat) (t : Tr α) (i : Nat) (a : Tr α) : set (d + 1) t i a = match i % 2 with
    | 0 => .node (set d t.lf (i / 2) a) t.rt
    | _ => .node t.lf (set d t.rt (i / 2) a) := by
  show (Nat.casesOn (motive := fun _ => Tr α) (i % 2) (.node (set d (lf t) (i / 2) a) (rt t)) (fun _ => .node (lf t) (set d (rt t) (i / 2) a))) = _
  cases h : i % 2 <;> rfl
theorem get_nil : ∀ (d i : Nat), get d (.nil : Tr α) i = none
  | 0, i => rfl
  | d + 1, i => by
    rw [get_succ']
    have : half i (lf (.nil : Tr α)) (rt (.nil : Tr α)) = .nil := by
      unfold half lf rt
      cases i % 2 <;> rfl
    rw [this]; exact get_nil d _
theorem get_zero_succ (t : Tr α) (i : Nat) : get 0 t (i + 1) = none := by cases t <;> rfl
theorem get_succ (d : Nat) (t : Tr α) (i : Nat) : get (d + 1) t i = match i % 2 with
    | 0 => get d t.lf (i / 2)
    | _ => get d t.rt (i / 2) := by
  rw [get_succ']
  unfold half
  cases i % 2 <;> rfl
theorem get_big : ∀ (d : Nat) (t : Tr α) (i : Nat), 2 ^ d ≤ i → get d t i = none
  | 0, t, i, h => by
    obtain ⟨j, rfl⟩ : ∃ j, i = j + 1 := ⟨i - 1, by simp at h; omega⟩
    exact get_zero_succ t j
  | d + 1, t, i, h => by
    rw [get_succ]
    have h2 : 2 ^ d ≤ i / 2 := by rw [Nat.pow_succ] at h; omega
    split
    · exact get_big d _ _ h2
    · exact get_big d _ _ h2
theorem get_set_same : ∀ (d : Nat) (t : Tr α) (i : Nat) (a : α), i < 2 ^ d → get d (set d t i (.leaf a)) i = some a
  | 0, t, i, a, h => by
    obtain rfl : i = 0 := by simp at h; omega
    rfl
  | d + 1, t, i, a, h => by
    have h2 : i / 2 < 2 ^ d := by rw [Nat.pow_succ] at h; omega
    rw [get_succ, set_succ]
    have hm : i % 2 = 0 ∨ i % 2 = 1 := by omega
    rcases hm with hi | hi <;> rw [hi] <;> simp only [lf, rt]
    · exact get_set_same d _ _ a h2
    · exact get_set_same d _ _ a h2
theorem mod2 (i : Nat) : i % 2 = 0 ∨ i % 2 = 1 := by omega
theorem get_set_other : ∀ (d : Nat) (t : Tr α) (i j : Nat) (a : Tr α), i < 2 ^ d → i ≠ j → get d (set d t i a) j = get d t j
  | 0, t, i, j, a, h, hn => by
    obtain rfl : i = 0 := by simp at h; omega
    obtain ⟨k, rfl⟩ : ∃ k, j = k + 1 := ⟨j - 1, by omega⟩
    rw [get_zero_succ, get_zero_succ]
  | d + 1, t, i, j, a, h, hn => by
    have h2 : i / 2 < 2 ^ d := by rw [Nat.pow_succ] at h; omega
    rw [get_succ, get_succ, set_succ]
    rcases mod2 i with hi | hi <;> rcases mod2 j with hj | hj <;> rw [hi, hj] <;> simp only [lf, rt]
    · exact get_set_other d _ _ _ a h2 (by omega)
    · exact get_set_other d _ _ _ a h2 (by omega)
theorem get_set_nil : ∀ (d : Nat) (t : Tr α) (i : Nat), i < 2 ^ d → get d (set d t i .nil) i = none
  | 0, t, i, h => get_nil _ _
  | d + 1, t, i, h => by
    have h2 : i / 2 < 2 ^ d := by rw [Nat.pow_succ] at h; omega
    rw [get_succ, set_succ]
    rcases mod2 i with hi | hi <;> rw [hi] <;> simp only [lf, rt]
    · exact get_set_nil d _ _ h2
    · exact get_set_nil d _ _ h2
mutual
def evens : List α → List α
  | [] => []
  | a :: l => a :: odds l
def odds : List α → List α
  | [] => []
  | _ :: l => evens l
end
theorem eo_get : ∀ (l : List α) (j : Nat), (evens l)[j]? = l[2 * j]? ∧ (odds l)[j]? = l[2 * j + 1]?
  | [], j => by simp [evens, odds]
  | a :: l, j => by
    have ih := eo_get l
    constructor
    · cases j with
      | zero => simp [evens]
      | succ j =>
        rw [evens, List.getElem?_cons_succ, (ih j).2, show 2 * (j + 1) = (2 * j + 1) + 1 by omega, List.getElem?_cons_succ]
    · rw [odds, (ih j).1, List.getElem?_cons_succ]
def mk : Nat → List α → Tr α
  | 0, [] => .nil
  | 0, a :: _ => .leaf a
  | _ + 1, [] => .nil
  | d + 1, l => .node (mk d (evens l)) (mk d (odds l))
theorem get_mk : ∀ (d : Nat) (l : List α) (i : Nat) (a : α), get d (mk d l) i = some a → l[i]? = some a
  | 0, [], i, a, h => by rw [mk, get_nil] at h; cases h
  | 0, b :: l, i, a, h => by
    cases i with
    | zero => exact h
    | succ i => rw [get_zero_succ] at h; cases h
  | d + 1, [], i, a, h => by rw [mk, get_nil] at h; cases h
  | d + 1, b :: l, i, a, h => by
    rw [get_succ] at h
    have he := eo_get (b :: l) (i / 2)
    rcases mod2 i with hi | hi <;> rw [hi] at h <;> simp only [mk, lf, rt] at h
    · rw [show i = 2 * (i / 2) by omega, ← he.1]; exact get_mk d _ _ a h
    · rw [show i = 2 * (i / 2) + 1 by omega, ← he.2]; exact get_mk d _ _ a h
end Tr

/-! ### values -/
mutual
/-- a value, its addresses told by names -/
inductive RV where
  | lit (v : Value)
  | ptr (b o : Nat)
  | sl (b o n c : Nat)
  | slu (b o n d : Nat)
  | sle (b o q d : Nat)
  | yld (b : Nat)
  | mp (b : Nat)
  | fn (f : Fn) (first cap : List RV)
  | ifc (t : TypeId) (v : RV)
  | agg (cs : List Seg)
  | tup (vs : List RV)
  | rst (c : UInt8) (k : Nat)
/-- cells: one; bytes packed into a number; one value many times -/
inductive Seg where
  | one (v : RV)
  | byt (n k : Nat)
  | rep (v : RV) (k : Nat)
end
/-- where the names lie; capacities that nobody knows -/
structure Nv where
  at_ : Nat → Nat
  cap : Nat → Nat
def byV (n i : Nat) : Value := .int .u8 (((n >>> (8 * i)) % 256 : Nat) : Int)
def bytV (n k : Nat) : List Value := (List.range k).map (byV n)
mutual
def RV.tr (e : Nv) : RV → Value
  | .lit v => v
  | .ptr b o => .pointer (some ⟨e.at_ b, o, none⟩)
  | .sl b o n c => .slice (some ⟨e.at_ b, o, none⟩) n c
  | .slu b o n d => .slice (some ⟨e.at_ b, o, none⟩) n (e.cap b - d)
  | .sle b o q d => .slice (some ⟨e.at_ b, (if e.cap b = d then o else q), none⟩) 0 (e.cap b - d)
  | .yld b => .func (.yield (e.at_ b)) #[] #[]
  | .mp b => .map (some (e.at_ b))
  | .fn f fs cs => .func f (trL e fs).toArray (trL e cs).toArray
  | .ifc t v => .iface t (RV.tr e v)
  | .agg cs => .agg (trS e cs).toArray
  | .tup vs => .tuple (trL e vs).toArray
  | .rst c k => .string ⟨⟨List.replicate k c⟩⟩
def trL (e : Nv) : List RV → List Value
  | [] => []
  | v :: r => RV.tr e v :: trL e r
def Seg.tr (e : Nv) : Seg → List Value
  | .one v => [RV.tr e v]
  | .byt n k => bytV n k
  | .rep v k => List.replicate k (RV.tr e v)
def trS (e : Nv) : List Seg → List Value
  | [] => []
  | s :: r => Seg.tr e s ++ trS e r
end
theorem trL_map (e : Nv) : ∀ l : List RV, trL e l = l.map (RV.tr e)
  | [] => rfl
  | v :: r => by rw [trL, trL_map e r]; rfl
theorem trS_app (e : Nv) : ∀ a b : List Seg, trS e (a ++ b) = trS e a ++ trS e b
  | [], b => rfl
  | s :: a, b => by rw [List.cons_append, trS, trS, trS_app e a b, List.append_assoc]
mutual
def RV.lt (n : Nat) : RV → Prop
  | .lit _ => True
  | .ptr b _ => b < n
  | .sl b _ _ _ => b < n
  | .slu b _ _ _ => b < n
  | .sle b _ _ _ => b < n
  | .yld b => b < n
  | .mp b => b < n
  | .fn _ fs cs => ltL n fs ∧ ltL n cs
  | .ifc _ v => RV.lt n v
  | .agg cs => ltS n cs
  | .tup vs => ltL n vs
  | .rst _ _ => True
def ltL (n : Nat) : List RV → Prop
  | [] => True
  | v :: r => RV.lt n v ∧ ltL n r
def Seg.lt (n : Nat) : Seg → Prop
  | .one v => RV.lt n v
  | .byt _ _ => True
  | .rep v _ => RV.lt n v
def ltS (n : Nat) : List Seg → Prop
  | [] => True
  | s :: r => Seg.lt n s ∧ ltS n r
end
/-- two namings that agree below a number -/
def Nv.ext (n : Nat) (e f : Nv) : Prop := ∀ i, i < n → f.at_ i = e.at_ i ∧ f.cap i = e.cap i
theorem Nv.ext.refl (n : Nat) (e : Nv) : Nv.ext n e e := fun _ _ => ⟨rfl, rfl⟩
theorem Nv.ext.trans {n m : Nat} {e f g : Nv} (h : Nv.ext n e f) (k : Nv.ext m f g) (hnm : n ≤ m) : Nv.ext n e g := fun i hi => by
  have h1 := h i hi
  have h2 := k i (by omega)
  exact ⟨h2.1.trans h1.1, h2.2.trans h1.2⟩
mutual
theorem RV.tr_ext {n : Nat} {e f : Nv} (h : Nv.ext n e f) : ∀ v : RV, RV.lt n v → RV.tr f v = RV.tr e v
  | .lit _, _ => rfl
  | .ptr b _, hl => by simp only [RV.tr, (h b hl).1]
  | .sl b _ _ _, hl => by simp only [RV.tr, (h b hl).1]
  | .slu b _ _ _, hl => by simp only [RV.tr, (h b hl).1, (h b hl).2]
  | .sle b _ _ _, hl => by simp only [RV.tr, (h b hl).1, (h b hl).2]
  | .yld b, hl => by simp only [RV.tr, (h b hl).1]
  | .mp b, hl => by simp only [RV.tr, (h b hl).1]
  | .fn _ fs cs, hl => by simp only [RV.tr, trL_ext h fs hl.1, trL_ext h cs hl.2]
  | .ifc _ v, hl => by simp only [RV.tr, RV.tr_ext h v hl]
  | .agg cs, hl => by simp only [RV.tr, trS_ext h cs hl]
  | .tup vs, hl => by simp only [RV.tr, trL_ext h vs hl]
  | .rst _ _, _ => rfl
theorem trL_ext {n : Nat} {e f : Nv} (h : Nv.ext n e f) : ∀ l : List RV, ltL n l → trL f l = trL e l
  | [], _ => rfl
  | v :: r, hl => by simp only [trL, RV.tr_ext h v hl.1, trL_ext h r hl.2]
theorem Seg.tr_ext {n : Nat} {e f : Nv} (h : Nv.ext n e f) : ∀ s : Seg, Seg.lt n s → Seg.tr f s = Seg.tr e s
  | .one v, hl => by simp only [Seg.tr, RV.tr_ext h v hl]
  | .byt _ _, _ => rfl
  | .rep v _, hl => by simp only [Seg.tr, RV.tr_ext h v hl]
theorem trS_ext {n : Nat} {e f : Nv} (h : Nv.ext n e f) : ∀ l : List Seg, ltS n l → trS f l = trS e l
  | [], _ => rfl
  | s :: r, hl => by simp only [trS, Seg.tr_ext h s hl.1, trS_ext h r hl.2]
end
mutual
theorem RV.lt_mono {n m : Nat} (h : n ≤ m) : ∀ v : RV, RV.lt n v → RV.lt m v
  | .lit _, _ => trivial
  | .ptr _ _, hl => Nat.lt_of_lt_of_le hl h
  | .sl _ _ _ _, hl => Nat.lt_of_lt_of_le hl h
  | .slu _ _ _ _, hl => Nat.lt_of_lt_of_le hl h
  | .sle _ _ _ _, hl => Nat.lt_of_lt_of_le hl h
  | .yld _, hl => Nat.lt_of_lt_of_le hl h
  | .mp _, hl => Nat.lt_of_lt_of_le hl h
  | .fn _ fs cs, hl => ⟨ltL_mono h fs hl.1, ltL_mono h cs hl.2⟩
  | .ifc _ v, hl => RV.lt_mono h v hl
  | .agg cs, hl => ltS_mono h cs hl
  | .tup vs, hl => ltL_mono h vs hl
  | .rst _ _, _ => trivial
theorem ltL_mono {n m : Nat} (h : n ≤ m) : ∀ l : List RV, ltL n l → ltL m l
  | [], _ => trivial
  | v :: r, hl => ⟨RV.lt_mono h v hl.1, ltL_mono h r hl.2⟩
theorem Seg.lt_mono {n m : Nat} (h : n ≤ m) : ∀ s : Seg, Seg.lt n s → Seg.lt m s
  | .one v, hl => RV.lt_mono h v hl
  | .byt _ _, _ => trivial
  | .rep v _, hl => RV.lt_mono h v hl
theorem ltS_mono {n m : Nat} (h : n ≤ m) : ∀ l : List Seg, ltS n l → ltS m l
  | [], _ => trivial
  | s :: r, hl => ⟨Seg.lt_mono h s hl.1, ltS_mono h r hl.2⟩
end
theorem ltL_mem {n : Nat} : ∀ {l : List RV}, ltL n l ↔ ∀ v ∈ l, RV.lt n v
  | [] => by simp [ltL]
  | v :: r => by simp [ltL, ltL_mem (l := r)]
theorem ltS_mem {n : Nat} : ∀ {l : List Seg}, ltS n l ↔ ∀ v ∈ l, Seg.lt n v
  | [] => by simp [ltS]
  | v :: r => by simp [ltS, ltS_mem (l := r)]
theorem ltS_app {n : Nat} {a b : List Seg} (ha : ltS n a) (hb : ltS n b) : ltS n (a ++ b) := ltS_mem.2 fun v hv => by
  rcases List.mem_append.1 hv with h | h
  · exact ltS_mem.1 ha v h
  · exact ltS_mem.1 hb v h

/-! ### cells -/
def Seg.len : Seg → Nat
  | .one _ => 1
  | .byt _ k => k
  | .rep _ k => k
theorem Seg.tr_len (e : Nv) (s : Seg) : (Seg.tr e s).length = s.len := by
  cases s <;> simp [Seg.tr, Seg.len, bytV]
def lenS : List Seg → Nat
  | [] => 0
  | s :: r => s.len + lenS r
theorem trS_len (e : Nv) : ∀ l : List Seg, (trS e l).length = lenS l
  | [] => rfl
  | s :: r => by rw [trS, List.length_append, Seg.tr_len, trS_len e r, lenS]
/-- what is left of a segment behind its first cells (fewer than it has) -/
def Seg.drop : Seg → Nat → Seg
  | .one v, _ => .one v
  | .byt n k, o => .byt (n >>> (8 * o)) (k - o)
  | .rep v k, o => .rep v (k - o)
def Seg.take : Seg → Nat → Seg
  | .one v, _ => .one v
  | .byt n _, o => .byt (n % 2 ^ (8 * o)) o
  | .rep v _, o => .rep v o
theorem Seg.tr_drop (e : Nv) (s : Seg) (o : Nat) (h : o < s.len) : Seg.tr e (s.drop o) = (Seg.tr e s).drop o := by
  cases s with
  | one v =>
    obtain rfl : o = 0 := by simp [Seg.len] at h; omega
    rfl
  | byt n k =>
    simp only [Seg.drop, Seg.tr, bytV]
    apply List.ext_getElem?
    intro i
    rw [List.getElem?_drop, List.getElem?_map, List.getElem?_map]
    by_cases hi : i < k - o
    · rw [List.getElem?_range hi, List.getElem?_range (by omega)]
      simp only [Option.map_some, byV, ← Nat.mul_add, ← Nat.shiftRight_add]
    · rw [List.getElem?_eq_none (by simp; omega), List.getElem?_eq_none (by simp; omega)]; rfl
  | rep v k => simp [Seg.drop, Seg.tr]
theorem byV_mod (n o i : Nat) (h : i < o) : byV (n % 2 ^ (8 * o)) i = byV n i := by
  unfold byV
  have : (n % 2 ^ (8 * o)) >>> (8 * i) % 256 = n >>> (8 * i) % 256 := by
    apply Nat.eq_of_testBit_eq
    intro j
    rw [show (256 : Nat) = 2 ^ 8 from rfl, Nat.testBit_mod_two_pow, Nat.testBit_mod_two_pow, Nat.testBit_shiftRight, Nat.testBit_shiftRight, Nat.testBit_mod_two_pow]
    by_cases hj : j < 8
    · have : 8 * i + j < 8 * o := by omega
      simp [hj, this]
    · simp [hj]
  rw [this]
theorem Seg.tr_take (e : Nv) (s : Seg) (o : Nat) (h : o ≤ s.len) (h0 : 0 < o) : Seg.tr e (s.take o) = (Seg.tr e s).take o := by
  cases s with
  | one v =>
    obtain rfl : o = 1 := by simp [Seg.len] at h; omega
    rfl
  | byt n k =>
    simp only [Seg.len] at h
    simp only [Seg.take, Seg.tr, bytV]
    apply List.ext_getElem?
    intro i
    rw [List.getElem?_take, List.getElem?_map, List.getElem?_map]
    by_cases hi : i < o
    · rw [if_pos hi, List.getElem?_range hi, List.getElem?_range (by omega)]
      simp only [Option.map_some]
      rw [byV_mod n o i hi]
    · rw [if_neg hi, List.getElem?_eq_none (by simp; omega)]; rfl
  | rep v k =>
    simp only [Seg.len] at h
    simp [Seg.take, Seg.tr, Nat.min_eq_left h]
def dropS : List Seg → Nat → List Seg
  | l, 0 => l
  | [], _ => []
  | s :: r, o + 1 => match Nat.ble s.len (o + 1) with
    | true => dropS r (o + 1 - s.len)
    | false => s.drop (o + 1) :: r
def takeS : List Seg → Nat → List Seg
  | _, 0 => []
  | [], _ => []
  | s :: r, o + 1 => match Nat.ble s.len (o + 1) with
    | true => s :: takeS r (o + 1 - s.len)
    | false => [s.take (o + 1)]
theorem dropS_tr (e : Nv) : ∀ (l : List Seg) (o : Nat), trS e (dropS l o) = (trS e l).drop o
  | [], 0 => rfl
  | [], o + 1 => by simp [dropS, trS]
  | s :: r, 0 => rfl
  | s :: r, o + 1 => by
    unfold dropS
    have hl := Seg.tr_len e s
    split
    · rename_i h
      have h1 := Nat.le_of_ble_eq_true h
      rw [dropS_tr e r, trS, List.drop_append, List.drop_of_length_le (l := Seg.tr e s) (by omega), List.nil_append, hl]
    · rename_i h
      have h1 : o + 1 < s.len := by
        rcases Nat.lt_or_ge (o + 1) s.len with h2 | h2
        · exact h2
        · rw [Nat.ble_eq_true_of_le h2] at h; cases h
      rw [trS, trS, Seg.tr_drop e s _ h1, List.drop_append, hl, show o + 1 - s.len = 0 by omega, List.drop_zero]
theorem takeS_tr (e : Nv) : ∀ (l : List Seg) (o : Nat), trS e (takeS l o) = (trS e l).take o
  | [], 0 => rfl
  | [], o + 1 => by simp [takeS, trS]
  | s :: r, 0 => by simp [takeS, trS]
  | s :: r, o + 1 => by
    unfold takeS
    have hl := Seg.tr_len e s
    split
    · rename_i h
      have h1 := Nat.le_of_ble_eq_true h
      rw [trS, trS, takeS_tr e r, List.take_append, List.take_of_length_le (l := Seg.tr e s) (by omega), hl]
    · rename_i h
      have h1 : o + 1 < s.len := by
        rcases Nat.lt_or_ge (o + 1) s.len with h2 | h2
        · exact h2
        · rw [Nat.ble_eq_true_of_le h2] at h; cases h
      rw [trS, trS, trS, List.append_nil, Seg.tr_take e s _ (by omega) (by omega), List.take_append, hl, show o + 1 - s.len = 0 by omega, List.take_zero, List.append_nil]
/-! ### full tries -/
/-- the place number i of a full trie; what stands there put in -/
noncomputable def getR {α : Type} (t : Tr α) : Nat → Option α :=
  Tr.rec (motive := fun _ => Nat → Option α) (fun _ => none) (fun a _ => some a)
    (fun _ _ il ir i => Nat.rec (motive := fun _ => Option α) (il (Nat.div i 2)) (fun _ _ => ir (Nat.div i 2)) (Nat.mod i 2)) t
noncomputable def setR {α β : Type} (t : Tr α) : Nat → Tr α → (Tr α → β) → β :=
  Tr.rec (motive := fun _ => Nat → Tr α → (Tr α → β) → β) (fun _ a k => k a) (fun _ _ a k => k a)
    (fun l r il ir i a k => Nat.rec (motive := fun _ => β) (il (Nat.div i 2) a (fun x => k (.node x r))) (fun _ _ => ir (Nat.div i 2) a (fun x => k (.node l x))) (Nat.mod i 2)) t
def fullR {α : Type} (a : α) (d : Nat) : Tr α := Nat.rec (motive := fun _ => Tr α) (.leaf a) (fun _ t => .node t t) d
section
variable {α β : Type}
/-- a full trie of depth d (of some places nothing is known) -/
def full : Nat → Tr α → Prop
  | 0, .leaf _ => True
  | 0, .nil => True
  | 0, _ => False
  | d + 1, .node l r => full d l ∧ full d r
  | _ + 1, _ => False
theorem getR_node (l r : Tr α) (i : Nat) : getR (.node l r) i = if i % 2 = 0 then getR l (i / 2) else getR r (i / 2) := by
  show (Nat.rec (motive := fun _ => Option α) (getR l (Nat.div i 2)) (fun _ _ => getR r (Nat.div i 2)) (i % 2)) = _
  cases h : i % 2 <;> simp <;> rfl
/-- what 'setR' puts in -/
noncomputable def putR (t : Tr α) (i : Nat) (a : Tr α) : Tr α := setR t i a id
theorem setR_node (l r : Tr α) (i : Nat) (a : Tr α) (k : Tr α → β) :
    setR (.node l r) i a k = if i % 2 = 0 then setR l (i / 2) a (fun x => k (.node x r)) else setR r (i / 2) a (fun x => k (.node l x)) := by
  show (Nat.rec (motive := fun _ => β) (setR l (Nat.div i 2) a (fun x => k (.node x r))) (fun _ _ => setR r (Nat.div i 2) a (fun x => k (.node l x))) (i % 2)) = _
  cases h : i % 2 <;> simp <;> rfl
theorem setR_eq : ∀ (t : Tr α) (i : Nat) (a : Tr α) {β : Type} (k : Tr α → β), setR t i a k = k (putR t i a)
  | .nil, _, _, _, _ => rfl
  | .leaf _, _, _, _, _ => rfl
  | .node l r, i, a, _, k => by
    unfold putR
    rw [setR_node, setR_node]
    split
    · rw [setR_eq l, setR_eq l _ _ (fun x => id (Tr.node x r))]; rfl
    · rw [setR_eq r, setR_eq r _ _ (fun x => id (Tr.node l x))]; rfl
theorem putR_node (l r : Tr α) (i : Nat) (a : Tr α) : putR (.node l r) i a = if i % 2 = 0 then .node (putR l (i / 2) a) r else .node l (putR r (i / 2) a) := by
  conv => lhs; unfold putR
  rw [setR_node, setR_eq, setR_eq]; rfl
theorem full_put : ∀ (d : Nat) (t : Tr α) (i : Nat) (a : α), full d t → full d (putR t i (.leaf a))
  | 0, .nil, _, _, _ => trivial
  | 0, .leaf _, _, _, _ => trivial
  | 0, .node _ _, _, _, h => h.elim
  | _ + 1, .nil, _, _, h => h.elim
  | _ + 1, .leaf _, _, _, h => h.elim
  | d + 1, .node l r, i, a, h => by
    rw [putR_node]
    split
    · exact ⟨full_put d l _ a h.1, h.2⟩
    · exact ⟨h.1, full_put d r _ a h.2⟩
theorem getR_put_same : ∀ (d : Nat) (t : Tr α) (i : Nat) (a : α), full d t → getR (putR t i (.leaf a)) i = some a
  | 0, .nil, _, _, _ => rfl
  | 0, .leaf _, _, _, _ => rfl
  | 0, .node _ _, _, _, h => h.elim
  | _ + 1, .nil, _, _, h => h.elim
  | _ + 1, .leaf _, _, _, h => h.elim
  | d + 1, .node l r, i, a, h => by
    rw [putR_node]
    split
    · rename_i h0
      rw [getR_node, if_pos h0]; exact getR_put_same d l _ a h.1
    · rename_i h0
      rw [getR_node, if_neg h0]; exact getR_put_same d r _ a h.2
theorem getR_put_other : ∀ (d : Nat) (t : Tr α) (i j : Nat) (a : α), full d t → i < 2 ^ d → j < 2 ^ d → i ≠ j → getR (putR t i (.leaf a)) j = getR t j
  | 0, _, i, j, _, _, hi, hj, hn => by simp at hi hj; omega
  | _ + 1, .nil, _, _, _, h, _, _, _ => h.elim
  | _ + 1, .leaf _, _, _, _, h, _, _, _ => h.elim
  | d + 1, .node l r, i, j, a, h, hi, hj, hn => by
    have h2 : i / 2 < 2 ^ d := by rw [Nat.pow_succ] at hi; omega
    have h3 : j / 2 < 2 ^ d := by rw [Nat.pow_succ] at hj; omega
    rw [putR_node]
    split
    · rw [getR_node, getR_node]
      split
      · exact getR_put_other d l _ _ a h.1 h2 h3 (by omega)
      · rfl
    · rw [getR_node, getR_node]
      split
      · rfl
      · exact getR_put_other d r _ _ a h.2 h2 h3 (by omega)
/-- a place forgotten -/
theorem full_putN : ∀ (d : Nat) (t : Tr α) (i : Nat), full d t → full d (putR t i .nil)
  | 0, .nil, _, _ => trivial
  | 0, .leaf _, _, _ => trivial
  | 0, .node _ _, _, h => h.elim
  | _ + 1, .nil, _, h => h.elim
  | _ + 1, .leaf _, _, h => h.elim
  | d + 1, .node l r, i, h => by
    rw [putR_node]
    split
    · exact ⟨full_putN d l _ h.1, h.2⟩
    · exact ⟨h.1, full_putN d r _ h.2⟩
theorem getR_putN : ∀ (d : Nat) (t : Tr α) (i j : Nat) (v : α), full d t → i < 2 ^ d → j < 2 ^ d → getR (putR t i .nil) j = some v → getR t j = some v
  | 0, .nil, _, _, _, _, _, _, hv => by cases hv
  | 0, .leaf _, _, _, _, _, _, _, hv => by cases hv
  | 0, .node _ _, _, _, _, h, _, _, _ => h.elim
  | _ + 1, .nil, _, _, _, h, _, _, _ => h.elim
  | _ + 1, .leaf _, _, _, _, h, _, _, _ => h.elim
  | d + 1, .node l r, i, j, v, h, hi, hj, hv => by
    have h2 : i / 2 < 2 ^ d := by rw [Nat.pow_succ] at hi; omega
    have h3 : j / 2 < 2 ^ d := by rw [Nat.pow_succ] at hj; omega
    rw [putR_node] at hv
    rw [getR_node]
    split at hv
    · rw [getR_node] at hv
      split at hv
      · rename_i hj0
        rw [if_pos hj0]; exact getR_putN d l _ _ v h.1 h2 h3 hv
      · rename_i hj0
        rw [if_neg hj0]; exact hv
    · rw [getR_node] at hv
      split at hv
      · rename_i hj0
        rw [if_pos hj0]; exact hv
      · rename_i hj0
        rw [if_neg hj0]; exact getR_putN d r _ _ v h.2 h2 h3 hv
theorem fullR_succ (a : α) (d : Nat) : fullR a (d + 1) = .node (fullR a d) (fullR a d) := rfl
theorem fullR_full (a : α) : ∀ d, full d (fullR a d)
  | 0 => trivial
  | d + 1 => ⟨fullR_full a d, fullR_full a d⟩
theorem getR_fullR (a : α) : ∀ d i, getR (fullR a d) i = some a
  | 0, _ => rfl
  | d + 1, i => by rw [fullR_succ, getR_node, getR_fullR a d]; split <;> rfl
end

end Go.Proofs.YtlfljoeafpimpaaGreatDoor
