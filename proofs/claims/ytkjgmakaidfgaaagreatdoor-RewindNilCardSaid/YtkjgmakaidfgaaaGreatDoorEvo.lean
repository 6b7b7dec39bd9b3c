/- The evaluator: calls of built-in functions (append stands in the next text); a map made. -/
import Derived.Test.YtkjgmakaidfgaaaGreatDoorEvn
namespace Go.Proofs.YtkjgmakaidfgaaaGreatDoor
open Go.RowKit

section
variable {P : Program} {Ty : Tr TypeInfo} {B : Nat → Prop} {w0 w : World} {e : Nv} {h h' : Hp} {F : Fr} {a : Act} {o : Oper} {v : RV}
/-- what a call yields -/
def BiR (P : Program) (B : Nat → Prop) (w0 : World) (e : Nv) (h : Hp) (b : Builtin) (ts : List TypeId) (xs : List RV) (w : World) (v : RV) (h' : Hp) : Prop :=
  ∀ ty cs, ∃ e' w', (builtin b ts.toArray ty cs (trL e xs).toArray).run P w = .ok (.value (RV.tr e' v)) w' ∧ Nv.ext h.nx e e' ∧ RepH B w0 e' h' w' ∧ h.nx ≤ h'.nx ∧ RV.lt h'.nx v
theorem evBi_run (K : TyOk P Ty) (r : RepH B w0 e h w) {b : Builtin} {ts : List TypeId} {xs : List RV} (hv : evBi Ty h b ts xs = some (v, h')) (hb : b ≠ .append) (hb' : b ≠ .delete) : BiR P B w0 e h b ts xs w v h' := by
  intro ty cs
  unfold evBi at hv
  split at hv
  · rename_i t ts x xs
    obtain ⟨u, hu, hh⟩ := some_map hv
    injection hh with h1 h2; subst h1 h2
    obtain ⟨hr, hl⟩ := evLen_run (P := P) K r hu (ts := ts) (rest := trL e xs) (ty := ty)
    exact ⟨e, w, run_value hr, Nv.ext.refl _ _, r, Nat.le_refl _, hl⟩
  · exact (hb rfl).elim
  · rename_i t ts d s
    obtain ⟨w', hr, r', hn, hl⟩ := evCopy_run (P := P) K r hv (ts := ts) (ty := ty)
    exact ⟨e, w', run_value hr, Nv.ext.refl _ _, r', Nat.le_of_eq hn.symm, hl⟩
  · exact (hb' rfl).elim
  · rename_i t ts x
    have key : ∀ (w' : World) (h1 : Hp), (Builtin.clear_ (t :: ts).toArray ty (trL e [x]).toArray).run P w = .ok (.tuple #[]) w' → RepH B w0 e h1 w' → h1.nx = h.nx →
        ∃ e' w', (builtin .clear (t :: ts).toArray ty cs (trL e [x]).toArray).run P w = .ok (.value (RV.tr e' (.lit (.tuple #[])))) w' ∧ Nv.ext h.nx e e' ∧ RepH B w0 e' h1 w' ∧ h.nx ≤ h1.nx ∧ RV.lt h1.nx (.lit (.tuple #[])) :=
      fun w' h1 hr r' hn => ⟨e, w', run_value hr, Nv.ext.refl _ _, r', Nat.le_of_eq hn.symm, trivial⟩
    split at hv
    · rename_i d hu
      injection hv with hv
      injection hv with h1 h2; subst h1 h2
      refine key w _ ?_ r rfl
      simp [Builtin.clear_, K.undRun hu, trL, RV.tr]
    · rename_i d n c hu
      injection hv with hv
      injection hv with h1 h2; subst h1 h2
      refine key w _ ?_ r rfl
      simp [Builtin.clear_, K.undRun hu, trL, RV.tr]
    · rename_i d b hu
      split at hv
      · rename_i es c hb
        injection hv with hv
        injection hv with h1 h2; subst h1 h2
        have hblk : w.heap[e.at_ b]? = some (.map (es.map (trE e)).toArray c) := (r.obj b _ hb).2.2.1
        refine key _ _ ?_ (r.setObj (x := .map #[] c) (o' := .map [] c) hb (by simp [RO.ok]) (fun x hx => by cases hx)) rfl
        simp [Builtin.clear_, K.undRun hu, trL, RV.tr, run_getObj_map w (e.at_ b) _ c hblk]
        simp [setObj, Sem.run, hblk]
      · cases hv
    · cases hv
  · injection hv with hv
    injection hv with h1 h2; subst h1 h2
    refine ⟨e, w, run_value ?_, Nv.ext.refl _ _, r, Nat.le_refl _, trivial⟩
    simp [Builtin.min_, Builtin.min2, trL, RV.tr]
  · injection hv with hv
    injection hv with h1 h2; subst h1 h2
    refine ⟨e, w, run_value ?_, Nv.ext.refl _ _, r, Nat.le_refl _, trivial⟩
    simp [Builtin.max_, Builtin.max2, trL, RV.tr]
  · cases hv
theorem bi_call (f : RepF e h.nx F a) {c : Call} {b : Builtin} {xs : List RV} (ho : o.op = .call c) (hc : c.callee = .builtin b) (hx : opds F c.args.toList = some xs) (hv : BiR P B w0 e h b c.argTypes.toList xs w v h') : OpR P B w0 e h a o w v h' := by
  obtain ⟨cs, hcs⟩ := call_builtin (P := P) (w := w) (a := a) ho hc
  obtain ⟨e', w', hr, hx', r', hn, hl⟩ := hv o.type cs
  refine ⟨e', w', .inl (hcs _ _ ?_), hx', r', hn, hl⟩
  have g : c.args.map a.eval = (trL e xs).toArray := by rw [← (opds_run f hx).1, ← Array.toList_map, Array.toArray_toList]
  rw [g]
  simpa only [Array.toArray_toList] using hr
theorem opMap_run (r : RepH B w0 e h w) {t : TypeId} {x : Option Operand} (hv : opMap h x = some (v, h')) (ho : o.op = .makeMap t x) : OpR P B w0 e h a o w v h' := by
  unfold opMap at hv
  split at hv
  · split at hv
    · rename_i hroom
      injection hv with hv
      injection hv with h1 h2; subst h1 h2
      refine ⟨e.put h.nx w.heap.size 0, w.alloc (.map #[] 0), .inl ?_, Nv.put_ext _ _ _ _, r.make 0 (Hp.room_lt hroom) ?_ ?_, Nat.le_succ _, Nat.lt_succ_self _⟩
      · unfold execOp; rw [ho]
        refine run_value ?_
        simp [Instr.makeMap, RV.tr, Nv.put]
      · simp [RO.ok]
      · simp [RO.lt]
    · cases hv
  · cases hv
end
end Go.Proofs.YtkjgmakaidfgaaaGreatDoor
