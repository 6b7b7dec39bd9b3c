/- The evaluator: rows of zeros; make. -/
import Derived.Test.YtkjgmakaidfgaaaGreatDoorEvm
namespace Go.Proofs.YtkjgmakaidfgaaaGreatDoor
open Go.RowKit

section
variable {P : Program} {Ty : Tr TypeInfo} {B : Nat → Prop} {w0 w : World} {e : Nv} {h h' : Hp} {F : Fr} {a : Act} {o : Oper} {v : RV}
def foldN {α : Type} (l : List α) : Nat → List α
  | 0 => []
  | n + 1 => l ++ foldN l n
theorem foldN_len {α : Type} (l : List α) : ∀ n, (foldN l n).length = n * l.length
  | 0 => by simp [foldN]
  | n + 1 => by rw [foldN, List.length_append, foldN_len l n, Nat.succ_mul, Nat.add_comm]
theorem foldN_get {α : Type} (l : List α) : ∀ n i, i < n * l.length → (foldN l n)[i]? = l[i % l.length]?
  | 0, i, h => by simp at h
  | n + 1, i, h => by
    rw [foldN]
    rcases Nat.lt_or_ge i l.length with hl | hl
    · rw [List.getElem?_append_left hl, Nat.mod_eq_of_lt hl]
    · rw [List.getElem?_append_right hl, foldN_get l n (i - l.length) (by rw [Nat.succ_mul] at h; omega)]
      congr 1
      rw [Nat.mod_eq_sub_mod hl]
theorem made_fold (z : Array Value) (m : Nat) : madeCells z (m * z.size) = (foldN z.toList m).toArray := by
  apply Array.ext'
  apply List.ext_getElem?
  intro i
  rcases Nat.lt_or_ge i (m * z.size) with hi | hi
  · have hz : 0 < z.size := by
      rcases Nat.eq_zero_or_pos z.size with h0 | h0
      · rw [h0] at hi; simp at hi
      · exact h0
    have hm := Nat.mod_lt i hz
    have hf := foldN_get z.toList m i (by simpa using hi)
    simp only [Array.length_toList] at hf
    rw [hf]
    simp only [madeCells, Array.toList_map, Array.toList_range, List.getElem?_map, List.getElem?_range hi, Option.map_some]
    rw [getElem!_pos z (i % z.size) hm, Array.getElem?_toList, Array.getElem?_eq_getElem hm]
  · rw [List.getElem?_eq_none (by simp [madeCells]; omega), List.getElem?_eq_none (by simp [foldN_len]; omega)]
theorem repS_tr (e : Nv) (z : List Seg) : ∀ n, trS e (repS z n) = foldN (trS e z) n
  | 0 => rfl
  | n + 1 => by rw [repS, trS_app, repS_tr e z n, foldN]
theorem repS_lt {k : Nat} {z : List Seg} (hz : ltS k z) : ∀ n, ltS k (repS z n)
  | 0 => trivial
  | n + 1 => ltS_app hz (repS_lt hz n)
theorem byt0_fold (k : Nat) : ∀ n, foldN (bytV 0 k) n = bytV 0 (k * n)
  | 0 => by rw [Nat.mul_zero]; rfl
  | n + 1 => by
    have g := bytV_join 0 0 k (k * n)
    simp only [Nat.zero_mod, Nat.zero_shiftLeft, Nat.add_zero] at g
    rw [foldN, byt0_fold k n, ← g, Nat.mul_succ, Nat.add_comm]
theorem timesS_tr (e : Nv) (z : List Seg) (n : Nat) : trS e (timesS z n) = foldN (trS e z) n := by
  unfold timesS
  split
  · rename_i k
    have hz : trS e [.byt 0 k] = bytV 0 k := by simp only [trS, Seg.tr, List.append_nil]
    rw [hz, byt0_fold]
    split
    · rfl
    · simp only [trS, Seg.tr, List.append_nil]
  · exact repS_tr e z n
theorem timesS_lt {k : Nat} {z : List Seg} (hz : ltS k z) (n : Nat) : ltS k (timesS z n) := by
  unfold timesS
  split
  · split
    · trivial
    · exact ⟨trivial, trivial⟩
  · exact repS_lt hz n
theorem TyOk.row (K : TyOk P Ty) {t : TypeId} {z : Value} {y s : Nat} (h1 : zerE Ty t = some z) (h2 : bytE Ty t = some y) (h3 : szE Ty t = some s) :
    ∃ i, P.info? t = some i ∧ i.zero = some z ∧ i.bytes = y ∧ i.size = s := by
  unfold zerE at h1
  unfold bytE at h2
  unfold szE at h3
  cases hi : Tr.get 10 Ty t with
  | none => rw [hi] at h1; cases h1
  | some i =>
    rw [hi] at h1 h2 h3
    exact ⟨i, K.info t i hi, h1, by simpa using h2, by simpa using h3⟩
theorem evMakeSlice_run (K : TyOk P Ty) (r : RepH B w0 e h w) {t : TypeId} {l c : RV} (hv : evMakeSlice Ty h t l c = some (v, h')) :
    ∃ e' w', (Instr.makeSlice t (RV.tr e l) (RV.tr e c)).run P w = .ok (RV.tr e' v) w' ∧ Nv.ext h.nx e e' ∧ RepH B w0 e' h' w' ∧ h.nx ≤ h'.nx ∧ RV.lt h'.nx v := by
  unfold evMakeSlice at hv
  split at hv
  · rename_i el n m hu hn hm
    split at hv
    · rename_i z y s hz hy hs
      split at hv
      · rename_i b1 b2 b3 b4 b5
        injection hv with hv
        injection hv with h1 h2; subst h1 h2
        have b1 := Nat.le_of_ble_eq_true b1
        have b2 := Nat.le_of_ble_eq_true b2
        have b3 := Nat.le_of_ble_eq_true b3
        have b5 := Nat.eq_of_beq_eq_true b5
        have hroom := Hp.room_lt b4
        obtain ⟨k1, rfl⟩ := intN_tr hn
        obtain ⟨k2, rfl⟩ := intN_tr hm
        obtain ⟨i, hi, hiz, hib, his⟩ := K.row hz hy hs
        subst hib his
        have hbb : (i.bytes : Int) * (m : Int) ≤ 281474976710656 := by
          have : ((i.bytes * m : Nat) : Int) ≤ 281474976710656 := by omega
          rwa [Int.natCast_mul] at this
        have hrun := run_make (P := P) w t el i z (K.und hu) hi hiz k1 k2 n m (by omega) (by omega) hbb (by omega)
        simp only [Int.toNat_natCast] at hrun
        rw [← b5, made_fold] at hrun
        have hx := Nv.put_ext e h.nx w.heap.size 0
        refine ⟨e.put h.nx w.heap.size 0, w.alloc (.cells (foldN z.cells.toList m).toArray el), ?_, hx, r.make 0 hroom ?_ (timesS_lt (pack_lt _) m), Nat.le_succ _, Nat.lt_succ_self _⟩
        · rw [show RV.tr e (.lit (.int k1 n)) = .int k1 n from rfl, show RV.tr e (.lit (.int k2 m)) = .int k2 m from rfl, hrun]
          simp only [RV.tr, Nv.put, if_true]
        · exact ⟨(0, 0), by rw [timesS_tr, pack_tr], frz_zero _⟩
      · cases hv
    · cases hv
  · cases hv
theorem opMkSl_run (K : TyOk P Ty) (r : RepH B w0 e h w) (f : RepF e h.nx F a) {t : TypeId} {l c : Operand} (hv : opMkSl Ty F h t l c = some (v, h')) (ho : o.op = .makeSlice t l c) : OpR P B w0 e h a o w v h' := by
  unfold opMkSl at hv
  split at hv
  · rename_i p hp
    split at hv
    · rename_i q hq
      obtain ⟨e', w', hr, hx, r', hn, hl⟩ := evMakeSlice_run K r hv
      refine ⟨e', w', .inl ?_, hx, r', hn, hl⟩
      unfold execOp; rw [ho]
      simp only [(opd_run f hp).1, (opd_run f hq).1]
      exact run_value hr
    · cases hv
  · cases hv
end
end Go.Proofs.YtkjgmakaidfgaaaGreatDoor
