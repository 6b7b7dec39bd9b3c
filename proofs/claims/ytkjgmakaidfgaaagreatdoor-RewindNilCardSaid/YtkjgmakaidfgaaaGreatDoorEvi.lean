/- The evaluator: single operations (no call). -/
import Derived.Test.YtkjgmakaidfgaaaGreatDoorEvh
namespace Go.Proofs.YtkjgmakaidfgaaaGreatDoor
open Go.RowKit

section
variable {P : Program} {Ty : Tr TypeInfo} {B : Nat → Prop} {w0 w : World} {e : Nv} {h h' : Hp} {F : Fr} {a : Act} {o : Oper} {v : RV}
theorem some_map {α β : Type} {x : Option α} {f : α → β} {z : β} (hz : x.map f = some z) : ∃ y, x = some y ∧ f y = z := by
  cases x with
  | none => cases hz
  | some y => exact ⟨y, rfl, Option.some.inj hz⟩
theorem with_some {x : Option RV} (hz : with_ h x = some (v, h')) : x = some v ∧ h' = h := by
  obtain ⟨y, hy, hh⟩ := some_map hz
  injection hh with h1 h2
  exact ⟨by rw [hy, h1], h2.symm⟩
theorem done_some {x : Option Hp} (hz : done_ x = some (v, h')) : x = some h' ∧ v = .lit undef := by
  obtain ⟨y, hy, hh⟩ := some_map hz
  injection hh with h1 h2
  exact ⟨by rw [hy, h2], h1.symm⟩
theorem run_value {s : Sem Value} {u : Value} {w' : World} (hs : s.run P w = .ok u w') : (do pure (Next.value (← s)) : Sem Next).run P w = .ok (.value u) w' := by
  simp only [Sem.run_bind, hs, Result.andThen_ok, Sem.run_pure]
theorem run_skip {s : Sem Unit} {w' : World} (hs : s.run P w = .ok () w') : (do s; pure Next.skip : Sem Next).run P w = .ok .skip w' := by
  simp only [Sem.run_bind, hs, Result.andThen_ok, Sem.run_pure]

theorem opMove_run (f : RepF e h.nx F a) {x : Operand} (hv : opMove F h x = some (v, h')) (ho : o.op = .move x ∨ o.op = .assign x) : QR P e h a o w v ∧ h' = h := by
  obtain ⟨y, hy, hh⟩ := some_map hv
  injection hh with h1 h2; subst h1 h2
  obtain ⟨he, hl⟩ := opd_run f hy
  refine ⟨⟨?_, hl⟩, rfl⟩
  rcases ho with ho | ho <;> (unfold execOp; rw [ho]; simp only [Sem.run_pure, he])
theorem opPick_run (f : RepF e h.nx F a) {c x y : Operand} (hv : opPick F h c x y = some (v, h')) (ho : o.op = .pick c x y) : QR P e h a o w v ∧ h' = h := by
  unfold opPick at hv
  split at hv
  · rename_i hc
    obtain ⟨z, hz, hh⟩ := some_map hv
    injection hh with h1 h2; subst h1 h2
    obtain ⟨he, hl⟩ := opd_run f hz
    refine ⟨⟨?_, hl⟩, rfl⟩
    unfold execOp; rw [ho]
    simp only [(opd_run f hc).1, RV.tr, asBool, Sem.run_bind, Sem.run_pure, Result.andThen_ok, if_true, he]
  · rename_i hc
    obtain ⟨z, hz, hh⟩ := some_map hv
    injection hh with h1 h2; subst h1 h2
    obtain ⟨he, hl⟩ := opd_run f hz
    refine ⟨⟨?_, hl⟩, rfl⟩
    unfold execOp; rw [ho]
    simp only [(opd_run f hc).1, RV.tr, asBool, Sem.run_bind, Sem.run_pure, Result.andThen_ok, Bool.false_eq_true, if_false, he]
  · cases hv
theorem opAlloc_run (K : TyOk P Ty) (r : RepH B w0 e h w) {t : TypeId} (hv : evAlloc Ty h t = some (v, h')) (ho : o.op = .alloc t) : OpR P B w0 e h a o w v h' := by
  obtain ⟨e', w', hr, hx, r', hn, hl⟩ := evAlloc_run K r hv
  refine ⟨e', w', .inl ?_, hx, r', hn, hl⟩
  unfold execOp; rw [ho]
  exact run_value hr
theorem opBox_run (r : RepH B w0 e h w) (f : RepF e h.nx F a) {t : TypeId} {x : Operand} (hv : opBox F h t x = some (v, h')) (ho : o.op = .box t x) : OpR P B w0 e h a o w v h' := by
  unfold opBox at hv
  split at hv
  · rename_i y hy
    obtain ⟨he, hl⟩ := opd_run f hy
    obtain ⟨e', w', hr, hx, r', hn, hl'⟩ := evBox_run (P := P) r hl hv
    refine ⟨e', w', .inl ?_, hx, r', hn, hl'⟩
    unfold execOp; rw [ho]
    simp only [he]
    exact run_value hr
  · cases hv
theorem opLoad_run (K : TyOk P Ty) (r : RepH B w0 e h w) (f : RepF e h.nx F a) {t : TypeId} {x : Operand} (hv : opLoad Ty F h t x = some (v, h')) (ho : o.op = .load t x) : QR P e h a o w v ∧ h' = h := by
  unfold opLoad at hv
  split at hv
  · rename_i y hy
    obtain ⟨h2, rfl⟩ := with_some hv
    obtain ⟨hr, hl⟩ := evLoad_run K r h2
    refine ⟨⟨?_, hl⟩, rfl⟩
    unfold execOp; rw [ho]
    simp only [(opd_run f hy).1]
    exact run_value hr
  · cases hv
theorem opStore_run (K : TyOk P Ty) (r : RepH B w0 e h w) (f : RepF e h.nx F a) {t : TypeId} {x y : Operand} (hv : opStore Ty F h t x y = some (v, h')) (ho : o.op = .store t x y) : OpR P B w0 e h a o w v h' := by
  unfold opStore at hv
  split at hv
  · rename_i p hp
    split at hv
    · rename_i u hu
      obtain ⟨h2, rfl⟩ := done_some hv
      obtain ⟨he, hl⟩ := opd_run f hu
      obtain ⟨w', hr, r', hn⟩ := evStore_run K r hl h2
      refine ⟨e, w', .inr ⟨?_, rfl⟩, Nv.ext.refl _ _, r', Nat.le_of_eq hn.symm, trivial⟩
      unfold execOp; rw [ho]
      simp only [(opd_run f hp).1, he]
      exact run_skip hr
    · cases hv
  · cases hv
theorem opFA_run (K : TyOk P Ty) (f : RepF e h.nx F a) {t : TypeId} {x : Operand} {k : Nat} (hv : opFA Ty F h t x k = some (v, h')) (ho : o.op = .fieldAddr t x k) : QR P e h a o w v ∧ h' = h := by
  unfold opFA at hv
  split at hv
  · rename_i p hp
    obtain ⟨h2, rfl⟩ := with_some hv
    obtain ⟨he, hl⟩ := opd_run f hp
    obtain ⟨hr, hl'⟩ := evField_run K hl h2 w
    refine ⟨⟨?_, hl'⟩, rfl⟩
    unfold execOp; rw [ho]
    simp only [he]
    exact run_value hr
  · cases hv
theorem opFV_run (K : TyOk P Ty) (f : RepF e h.nx F a) {t : TypeId} {x : Operand} {k : Nat} (hv : opFV Ty F h t x k = some (v, h')) (ho : o.op = .field t x k) : QR P e h a o w v ∧ h' = h := by
  unfold opFV at hv
  split at hv
  · rename_i p hp
    obtain ⟨h2, rfl⟩ := with_some hv
    obtain ⟨he, hl⟩ := opd_run f hp
    obtain ⟨hr, hl'⟩ := evFieldV_run K hl h2 w
    refine ⟨⟨?_, hl'⟩, rfl⟩
    unfold execOp; rw [ho]
    simp only [he]
    exact run_value hr
  · cases hv
theorem opIA_run (K : TyOk P Ty) (f : RepF e h.nx F a) {t : TypeId} {x i : Operand} (hv : opIA Ty F h t x i = some (v, h')) (ho : o.op = .indexAddr t x i) : QR P e h a o w v ∧ h' = h := by
  unfold opIA at hv
  split at hv
  · rename_i p hp
    split at hv
    · rename_i q hq
      obtain ⟨h2, rfl⟩ := with_some hv
      obtain ⟨he, hl⟩ := opd_run f hp
      obtain ⟨hr, hl'⟩ := evIndexA_run K hl h2 w
      refine ⟨⟨?_, hl'⟩, rfl⟩
      unfold execOp; rw [ho]
      simp only [he, (opd_run f hq).1]
      exact run_value hr
    · cases hv
  · cases hv
theorem opIV_run (K : TyOk P Ty) (f : RepF e h.nx F a) {t : TypeId} {x i : Operand} (hv : opIV Ty F h t x i = some (v, h')) (ho : o.op = .index t x i) : QR P e h a o w v ∧ h' = h := by
  unfold opIV at hv
  split at hv
  · rename_i p hp
    split at hv
    · rename_i q hq
      obtain ⟨h2, rfl⟩ := with_some hv
      obtain ⟨he, hl⟩ := opd_run f hp
      obtain ⟨hr, hl'⟩ := evIndexV_run K hl h2 w
      refine ⟨⟨?_, hl'⟩, rfl⟩
      unfold execOp; rw [ho]
      simp only [he, (opd_run f hq).1]
      exact run_value hr
    · cases hv
  · cases hv
theorem opExt_run (f : RepF e h.nx F a) {x : Operand} {k : Nat} (hv : opExt F h x k = some (v, h')) (ho : o.op = .extract x k) : QR P e h a o w v ∧ h' = h := by
  unfold opExt at hv
  split at hv
  · rename_i p hp
    obtain ⟨h2, rfl⟩ := with_some hv
    obtain ⟨he, hl⟩ := opd_run f hp
    obtain ⟨hr, hl'⟩ := evExtract_run (P := P) hl h2 w
    refine ⟨⟨?_, hl'⟩, rfl⟩
    unfold execOp; rw [ho]
    simp only [he]
    exact run_value hr
  · cases hv
end
end Go.Proofs.YtkjgmakaidfgaaaGreatDoor
