/- The evaluator: built-in functions: len, min, max. -/
import Derived.Test.YtkjgmakaidfgaaaGreatDoorEvk
namespace Go.Proofs.YtkjgmakaidfgaaaGreatDoor
open Go.RowKit

section
variable {P : Program} {Ty : Tr TypeInfo} {B : Nat → Prop} {w0 w : World} {e : Nv} {h h' : Hp} {F : Fr} {a : Act} {o : Oper} {v : RV}
/-- a built-in function is called -/
theorem call_builtin {c : Call} {b : Builtin} (ho : o.op = .call c) (hc : c.callee = .builtin b) :
    ∃ cs, ∀ u w', (builtin b c.argTypes o.type cs (c.args.map a.eval)).run P w = .ok (.value u) w' → (execOp a.eval o).run P w = .ok (.value u) w' := by
  refine ⟨c.args.map fun | .const _ => true | _ => false, fun u w' hr => ?_⟩
  unfold execOp; rw [ho]
  show (do let d ← resolve a.eval c o.type; invoke d.target d.args).run P w = _
  unfold resolve
  simp only [hc]
  exact hr
theorem evLen_run (K : TyOk P Ty) (r : RepH B w0 e h w) {t : TypeId} {x : RV} (hv : evLen Ty h t x = some v) {ts : List TypeId} {rest : List Value} {ty : TypeId} :
    (Builtin.len_ (t :: ts).toArray ty (RV.tr e x :: rest).toArray).run P w = .ok (RV.tr e v) w ∧ RV.lt h.nx v := by
  unfold evLen at hv
  split at hv
  · rename_i n el hu
    injection hv with hv; subst hv
    refine ⟨?_, trivial⟩
    simp [Builtin.len_, K.undRun hu, RV.tr, goInt, intV]
  · rename_i u hu
    split at hv
    · rename_i n el hu2
      injection hv with hv; subst hv
      refine ⟨?_, trivial⟩
      simp [Builtin.len_, K.undRun hu, K.undRun hu2, RV.tr, goInt, intV]
    · cases hv
  · rename_i k el hu
    split at hv
    · injection hv with hv; subst hv
      refine ⟨?_, trivial⟩
      simp [Builtin.len_, K.undRun hu, RV.tr, goInt, intV]
    · rename_i b
      split at hv
      · rename_i es c hb
        injection hv with hv; subst hv
        refine ⟨?_, trivial⟩
        obtain ⟨_, _, hok, _⟩ := r.obj b _ hb
        have hok : w.heap[e.at_ b]? = some (.map (es.map (trE e)).toArray c) := hok
        simp [Builtin.len_, K.undRun hu, RV.tr, goInt, intV, run_getObj_map w (e.at_ b) _ c hok]
      · cases hv
    · cases hv
  · rename_i hu
    obtain ⟨n, hn, rfl⟩ := some_map hv
    refine ⟨?_, trivial⟩
    unfold lenT at hn
    split at hn
    · injection hn with hn; subst hn
      simp [Builtin.len_, K.undRun hu, RV.tr, goInt, intV]
    · cases hn
  · rename_i el hu
    obtain ⟨n, hn, rfl⟩ := some_map hv
    refine ⟨?_, trivial⟩
    unfold lenS' at hn
    split at hn <;> first
      | (cases hn; done)
      | (injection hn with hn; subst hn
         simp [Builtin.len_, K.undRun hu, RV.tr, goInt, intV])
  · cases hv
end
end Go.Proofs.YtkjgmakaidfgaaaGreatDoor
