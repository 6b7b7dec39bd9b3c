/- The evaluator: slice expressions. -/
import Derived.Test.YtkjgmakaidfgaaaGreatDoorEvj
namespace Go.Proofs.YtkjgmakaidfgaaaGreatDoor
open Go.RowKit

section
variable {P : Program} {Ty : Tr TypeInfo} {B : Nat → Prop} {w0 w : World} {e : Nv} {h h' : Hp} {F : Fr} {a : Act} {o : Oper} {v : RV}
theorem intN_tr {x : RV} {n : Nat} (hx : intN x = some n) : ∃ k, x = .lit (.int k (n : Int)) := by
  unfold intN at hx
  split at hx
  · rename_i k m
    injection hx with hx; subst hx
    exact ⟨k, rfl⟩
  · cases hx
theorem bound_run {x : RV} {n y : Nat} (hx : intN x = some n) (hn : n ≤ y) (c : BoundsCode) (w : World) : (Instr.sliceBound (RV.tr e x) y c).run P w = .ok n w := by
  obtain ⟨k, rfl⟩ := intN_tr hx
  have h1 : (0 : Int) ≤ (n : Int) ∧ (n : Int) ≤ (y : Int) := ⟨by omega, by omega⟩
  simp only [Instr.sliceBound, RV.tr, asIntOf, Sem.run_bind, Sem.run_pure, Result.andThen_ok, h1, and_self, if_true, Int.toNat_natCast]
theorem bounds_run {s : Bool} {len cap l hi' m : Nat} {lo hi mx : Option RV} (hb : bounds len cap lo hi mx = some (l, hi', m)) (w : World) :
    (Instr.sliceBounds s len cap (lo.map (RV.tr e)) (hi.map (RV.tr e)) (mx.map (RV.tr e))).run P w = .ok (l, hi', m) w ∧ l ≤ hi' ∧ hi' ≤ m ∧ m ≤ cap := by
  unfold bounds at hb
  split at hb
  · cases hb
  · rename_i hno
    split at hb
    · cases hb
    · rename_i m' hm
      split at hb
      · cases hb
      · rename_i h1 hh
        split at hb
        · cases hb
        · rename_i l' hl
          split at hb
          · rename_i b1 b2 b3
            injection hb with hb
            injection hb with e1 hb; injection hb with e2 e3
            subst e1 e2 e3
            have b1 := Nat.le_of_ble_eq_true b1
            have b2 := Nat.le_of_ble_eq_true b2
            have b3 := Nat.le_of_ble_eq_true b3
            refine ⟨?_, b3, b2, b1⟩
            cases mx with
            | none =>
              obtain rfl : cap = m' := by simpa [optN] using hm
              cases hi with
              | none =>
                obtain rfl : len = h1 := by simpa [optN] using hh
                cases lo with
                | none =>
                  obtain rfl : 0 = l' := by simpa [optN] using hl
                  rfl
                | some lo => simp only [Instr.sliceBounds, Option.map_none, Option.map_some, Sem.run_bind, Sem.run_pure, Result.andThen_ok, bound_run (P := P) (e := e) hl b3]
              | some hi => cases lo with
                | none =>
                  obtain rfl : 0 = l' := by simpa [optN] using hl
                  simp only [Instr.sliceBounds, Option.map_none, Option.map_some, Sem.run_bind, Sem.run_pure, Result.andThen_ok, bound_run (P := P) (e := e) hh b2]
                | some lo => simp only [Instr.sliceBounds, Option.map_none, Option.map_some, Sem.run_bind, Sem.run_pure, Result.andThen_ok, bound_run (P := P) (e := e) hl b3, bound_run (P := P) (e := e) hh b2]
            | some mx => cases hi with
              | none => exact (hno _ rfl rfl).elim
              | some hi => cases lo with
                | none =>
                  obtain rfl : 0 = l' := by simpa [optN] using hl
                  simp only [Instr.sliceBounds, Option.map_none, Option.map_some, Sem.run_bind, Sem.run_pure, Result.andThen_ok, bound_run (P := P) (e := e) hh b2, bound_run (P := P) (e := e) hm b1]
                | some lo => simp only [Instr.sliceBounds, Option.map_some, Sem.run_bind, Sem.run_pure, Result.andThen_ok, bound_run (P := P) (e := e) hl b3, bound_run (P := P) (e := e) hh b2, bound_run (P := P) (e := e) hm b1]
          · cases hb
theorem add_moved (b o l m s : Nat) : (if m = l then (⟨b, o, none⟩ : Addr) else (⟨b, o, none⟩ : Addr).add (l * s)) = ⟨b, moved o l m s, none⟩ := by
  unfold moved
  cases hb : Nat.beq m l with
  | true => rw [if_pos (Nat.eq_of_beq_eq_true hb)]
  | false =>
    rw [if_neg (fun h => by subst h; rw [Nat.beq_refl] at hb; cases hb)]
    unfold Addr.add
    split
    · rename_i h0; rw [h0]; rfl
    · rfl
theorem roomy_cap (r : RepH B w0 e h w) {b d k : Nat} (hr : roomy h b d k = true) : d + k ≤ e.cap b := by
  unfold roomy at hr
  split at hr
  · rename_i cs t s hi
    obtain ⟨_, _, hok, _⟩ := r.obj b _ hi
    obtain ⟨sp, _, _, hc, _⟩ := hok
    have := Nat.le_of_ble_eq_true hr
    have hc2 : lenS cs + sp.length = e.cap b * (s + 1) := hc
    have h2 : (d + k) * (s + 1) ≤ e.cap b * (s + 1) := by omega
    exact Nat.le_of_mul_le_mul_right h2 (Nat.succ_pos s)
  · cases hr
theorem bounds_cap {len n c l k m : Nat} {lo hi : Option RV} (hb : bounds len n lo hi none = some (l, k, m)) (hc : k ≤ c) : bounds len c lo hi none = some (l, k, c) := by
  unfold bounds at hb ⊢
  simp only [optN] at hb ⊢
  split at hb
  · cases hb
  · rename_i h1 hh
    split at hb
    · cases hb
    · rename_i l' hl
      split at hb
      · rename_i b1 b2 b3
        injection hb with hb
        injection hb with e1 hb; injection hb with e2 e3
        subst e1 e2 e3
        have g1 : Nat.ble c c = true := Nat.ble_eq_true_of_le (Nat.le_refl _)
        have g2 : Nat.ble h1 c = true := Nat.ble_eq_true_of_le hc
        simp only [g1, g2, b3]
      · cases hb
theorem add_off (b o k : Nat) : (⟨b, o, none⟩ : Addr).add k = ⟨b, o + k, none⟩ := by
  unfold Addr.add
  split
  · rename_i h0; rw [h0]; rfl
  · rfl
theorem bounds_wide {len n c l k m : Nat} {lo hi mx : Option RV} (hb : bounds len n lo hi mx = some (l, k, m)) (hc : n ≤ c) (hmx : mx.isSome = true := by rfl) : bounds len c lo hi mx = some (l, k, m) := by
  cases mx with
  | none => cases hmx
  | some x =>
    unfold bounds at hb ⊢
    split at hb
    · cases hb
    · simp only [optN] at hb ⊢
      split at hb
      · cases hb
      · rename_i m1 hm1
        split at hb
        · cases hb
        · rename_i h1 hh
          split at hb
          · cases hb
          · rename_i l' hl
            split at hb
            · rename_i b1 b2 b3
              injection hb with hb
              injection hb with e1 hb; injection hb with e2 e3
              subst e1 e2 e3
              have g1 : Nat.ble m1 c = true := Nat.ble_eq_true_of_le (Nat.le_trans (Nat.le_of_ble_eq_true b1) hc)
              simp only [g1, b2, b3]
            · cases hb
theorem evSlice_run (K : TyOk P Ty) (r : RepH B w0 e h w) {t : TypeId} {x v : RV} {lo hi mx : Option RV} (hl : RV.lt h.nx x) (hv : evSlice Ty h t x lo hi mx = some v) :
    (Instr.sliceAt t (RV.tr e x) (lo.map (RV.tr e)) (hi.map (RV.tr e)) (mx.map (RV.tr e))).run P w = .ok (RV.tr e v) w ∧ RV.lt h.nx v := by
  unfold evSlice at hv
  split at hv
  · rename_i n el hu
    split at hv
    · rename_i b o s l k m hs hb
      injection hv with hv; subst hv
      refine ⟨?_, hl⟩
      simp only [Instr.sliceAt, Sem.run_bind, K.undRun hu, Result.andThen_ok, RV.tr, Instr.sureAddr, Sem.run_pure, (bounds_run (P := P) (e := e) (s := false) hb w).1, K.size hs, add_moved]
    · cases hv
  · rename_i el hu
    split at hv
    · rename_i s hs
      split at hv
      · rename_i b o n c
        split at hv
        · rename_i l k m hb
          injection hv with hv; subst hv
          refine ⟨?_, hl⟩
          simp only [Instr.sliceAt, Instr.slice, Sem.run_bind, K.undRun hu, Result.andThen_ok, RV.tr, Sem.run_pure, (bounds_run (P := P) (e := e) (s := true) hb w).1, K.size hs, Option.map_some, ← add_moved]
          split <;> rfl
        · cases hv
      · rename_i b o n d
        split at hv
        · split at hv
          · rename_i l k m hb
            split at hv
            · rename_i h2 h1
              injection hv with hv; subst hv
              refine ⟨?_, hl⟩
              have hc := roomy_cap r h2
              have hlt := Nat.le_of_ble_eq_true h1
              have hb' := bounds_cap hb (show k ≤ e.cap b - d by omega)
              have hne : ¬ (e.cap b - d = l) := by omega
              have hadd := add_off (e.at_ b) o (l * s)
              simp only [Instr.sliceAt, Instr.slice, Sem.run_bind, K.undRun hu, Result.andThen_ok, RV.tr, Sem.run_pure, (bounds_run (P := P) (e := e) (s := true) hb' w).1, K.size hs, Option.map_some, if_neg hne, hadd, Nat.sub_sub]
            · rename_i h2 h1
              have hc := roomy_cap r h2
              have hb' := bounds_cap hb (show k ≤ e.cap b - d by omega)
              obtain ⟨hbr, hlk, _, _⟩ := bounds_run (P := P) (e := e) (s := true) hb' w
              have hkl : k ≤ l := by
                have := not_ble h1
                omega
              obtain rfl : l = k := Nat.le_antisymm hlk hkl
              split at hv
              · injection hv with hv; subst hv
                refine ⟨?_, hl⟩
                have hadd : (⟨e.at_ b, o, none⟩ : Addr).add (0 * s) = ⟨e.at_ b, o, none⟩ := by
                  unfold Addr.add
                  rw [if_pos (Nat.zero_mul s)]
                simp only [Instr.sliceAt, Instr.slice, Sem.run_bind, K.undRun hu, Result.andThen_ok, RV.tr, Sem.run_pure, hbr, K.size hs, Option.map_some, hadd, ite_self, Nat.sub_zero]
              · injection hv with hv; subst hv
                refine ⟨?_, hl⟩
                have hadd := add_off (e.at_ b) o (l * s)
                by_cases hcl : e.cap b = d + l
                · have hcl' : e.cap b - d = l := by omega
                  simp only [Instr.sliceAt, Instr.slice, Sem.run_bind, K.undRun hu, Result.andThen_ok, RV.tr, Sem.run_pure, hbr, K.size hs, Option.map_some, if_pos hcl, if_pos hcl', Nat.sub_sub, Nat.sub_self]
                · have hcl' : ¬ (e.cap b - d = l) := by omega
                  simp only [Instr.sliceAt, Instr.slice, Sem.run_bind, K.undRun hu, Result.andThen_ok, RV.tr, Sem.run_pure, hbr, K.size hs, Option.map_some, if_neg hcl, if_neg hcl', hadd, Nat.sub_sub, Nat.sub_self]
            · cases hv
          · cases hv
        · rename_i x
          split at hv
          · rename_i m' hm'
            split at hv
            · rename_i l k m h2 hb
              injection hv with hv; subst hv
              refine ⟨?_, hl⟩
              have hc := roomy_cap r h2
              have hb' := bounds_wide hb (show m' ≤ e.cap b - d by omega)
              have hbr := (bounds_run (P := P) (e := e) (s := true) hb' w).1
              simp only [Option.map_some] at hbr
              simp only [Instr.sliceAt, Instr.slice, Sem.run_bind, K.undRun hu, Result.andThen_ok, RV.tr, Sem.run_pure, hbr, K.size hs, Option.map_some, ← add_moved]
              split <;> rfl
            · cases hv
          · cases hv
      · rename_i b o q d
        split at hv
        · rename_i m hb
          injection hv with hv; subst hv
          refine ⟨?_, hl⟩
          have hb' := bounds_cap (c := e.cap b - d) hb (Nat.zero_le _)
          have hadd : ∀ z, (⟨e.at_ b, z, none⟩ : Addr).add (0 * s) = ⟨e.at_ b, z, none⟩ := fun z => by
            unfold Addr.add
            rw [if_pos (Nat.zero_mul s)]
          simp only [Instr.sliceAt, Instr.slice, Sem.run_bind, K.undRun hu, Result.andThen_ok, RV.tr, Sem.run_pure, (bounds_run (P := P) (e := e) (s := true) hb' w).1, K.size hs, Option.map_some, hadd, ite_self, Nat.sub_zero]
        · cases hv
      · rename_i n c
        split at hv
        · rename_i l k m hb
          injection hv with hv; subst hv
          refine ⟨?_, trivial⟩
          simp only [Instr.sliceAt, Instr.slice, Sem.run_bind, K.undRun hu, Result.andThen_ok, RV.tr, Sem.run_pure, (bounds_run (P := P) (e := e) (s := true) hb w).1, K.size hs, Option.map_none, ite_self]
        · cases hv
      · cases hv
    · cases hv
  · rename_i hu
    split at hv
    · rename_i s
      split at hv
      · rename_i l k m hb
        injection hv with hv; subst hv
        refine ⟨?_, trivial⟩
        have hbr := (bounds_run (P := P) (e := e) (s := false) hb w).1
        simp only [Option.map_none] at hbr
        simp only [Instr.sliceAt, Instr.slice, Sem.run_bind, K.undRun hu, Result.andThen_ok, RV.tr, Sem.run_pure, Option.map_none, Option.isSome_none, Bool.false_eq_true, if_false, hbr]
      · cases hv
    · cases hv
  · cases hv
theorem optR_run (f : RepF e h.nx F a) {x : Option Operand} {v : Option RV} (hv : optR F x = some v) : x.map a.eval = v.map (RV.tr e) := by
  cases x with
  | none => injection hv with hv; subst hv; rfl
  | some x =>
    obtain ⟨y, hy, hh⟩ := some_map hv
    subst hh
    simp only [Option.map_some, (opd_run f hy).1]
theorem opSlice_run (K : TyOk P Ty) (r : RepH B w0 e h w) (f : RepF e h.nx F a) {t : TypeId} {x : Operand} {lo hi mx : Option Operand} (hv : opSlice Ty F h t x lo hi mx = some (v, h')) (ho : o.op = .slice t x lo hi mx) : QR P e h a o w v ∧ h' = h := by
  unfold opSlice at hv
  split at hv
  · rename_i p hp
    split at hv
    · rename_i l1 l2 l3 h1 h2 h3
      obtain ⟨hz, rfl⟩ := with_some hv
      obtain ⟨he, hl⟩ := opd_run f hp
      obtain ⟨hr, hl'⟩ := evSlice_run K r hl hz
      refine ⟨⟨?_, hl'⟩, rfl⟩
      unfold execOp; rw [ho]
      simp only [he, optR_run f h1, optR_run f h2, optR_run f h3]
      exact run_value hr
    · cases hv
  · cases hv
end
end Go.Proofs.YtkjgmakaidfgaaaGreatDoor
