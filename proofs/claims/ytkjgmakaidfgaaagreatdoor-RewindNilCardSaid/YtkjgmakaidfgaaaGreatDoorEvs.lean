/- The evaluator: a function's results. -/
import Derived.Test.YtkjgmakaidfgaaaGreatDoorEvr
namespace Go.Proofs.YtkjgmakaidfgaaaGreatDoor
open Go.RowKit

section
variable {P : Program} {Ty : Tr TypeInfo} {B : Nat → Prop} {w0 w : World} {e : Nv} {h : Hp} {F : Fr} {a : Act}
theorem load_asAddr {t : TypeId} {x v : Value} (hl : (Instr.loadAt t x).run P w = .ok v w) : (do loadVar t (← asAddr x) : Sem Value).run P w = .ok v w := by
  cases x with
  | pointer p =>
    cases p with
    | some q => exact hl
    | none => cases hl
  | _ => cases hl
def oneRes (tmps : Array Value) : ResultVar → Sem Value
  | .tmp t => pure (tmps.getD t undef)
  | .cell a t => do loadVar t (← asAddr (tmps.getD a undef))
theorem resE_run (K : TyOk P Ty) (r : RepH B w0 e h w) (f : RepF e h.nx F a) : ∀ {l : List ResultVar} {vs : List RV}, resE Ty F h l = some vs →
    (l.mapM (oneRes a.tmps)).run P w = .ok (trL e vs) w ∧ ltL h.nx vs
  | [], vs, hv => by
    injection hv with hv; subst hv
    exact ⟨rfl, trivial⟩
  | .tmp t :: l, vs, hv => by
    unfold resE at hv
    split at hv
    · rename_i v ys hy hys
      injection hv with hv; subst hv
      obtain ⟨h1, h2⟩ := resE_run K r f hys
      obtain ⟨h3, h4⟩ := opd_run f hy
      refine ⟨?_, h4, h2⟩
      have h5 : (oneRes a.tmps (.tmp t)).run P w = .ok (RV.tr e v) w := by
        show (pure (a.eval (.tmp t)) : Sem Value).run P w = _
        rw [h3]; rfl
      rw [List.mapM_cons]
      simp only [Sem.run_bind, h5, h1, Result.andThen_ok, Sem.run_pure, trL]
    · cases hv
  | .cell q t :: l, vs, hv => by
    unfold resE at hv
    split at hv
    · rename_i p hp
      split at hv
      · rename_i v ys hy hys
        injection hv with hv; subst hv
        obtain ⟨h1, h2⟩ := resE_run K r f hys
        obtain ⟨h3, _⟩ := opd_run f hp
        obtain ⟨h4, h6⟩ := evLoad_run K r hy
        refine ⟨?_, h6, h2⟩
        have h5 : (oneRes a.tmps (.cell q t)).run P w = .ok (RV.tr e v) w := by
          show (do loadVar t (← asAddr (a.eval (.tmp q))) : Sem Value).run P w = _
          rw [h3]; exact load_asAddr h4
        rw [List.mapM_cons]
        simp only [Sem.run_bind, h5, h1, Result.andThen_ok, Sem.run_pure, trL]
      · cases hv
    · cases hv
def oneV : List Value → Value
  | [v] => v
  | l => .tuple l.toArray
theorem results_run {fn : Func} {l : List Value} (hr : (fn.results.toList.mapM (oneRes a.tmps)).run P w = .ok l w) :
    (results fn a.tmps).run P w = .ok (oneV l) w := by
  have hm : (fn.results.mapM (oneRes a.tmps)).run P w = .ok l.toArray w := by
    rw [Array.mapM_eq_mapM_toList]
    simp [hr]
  have hf : results fn a.tmps = (do let vs ← fn.results.mapM (oneRes a.tmps); pure (if h : vs.size = 1 then vs[0] else .tuple vs)) := by
    unfold results
    congr 2
  rw [hf]
  simp only [Sem.run_bind, hm, Result.andThen_ok, Sem.run_pure]
  match l with
  | [] => rfl
  | [v] => rfl
  | v :: u :: l => simp [oneV]
end
end Go.Proofs.YtkjgmakaidfgaaaGreatDoor
