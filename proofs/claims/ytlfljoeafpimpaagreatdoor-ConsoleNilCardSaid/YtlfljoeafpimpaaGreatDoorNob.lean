/- A deferred function that asks whether somebody panics does nothing where nobody does. Any program. -/
import Derived.Test.YtlfljoeafpimpaaGreatDoorEvt
import Derived.RecoverIn
import Derived.KernelRfl
namespace Go.Proofs.YtlfljoeafpimpaaGreatDoor
open Go.RowKit

theorem noop_of {P : Program} {f : FuncId} {fn : Func} {id t1 t2 ti tj y1 y2 : Nat} {s1 s2 : String} {ed : Array Edge} {A : Code} (hf : P.funcs[f]? = some fn)
    (hb : fn.body = some (.seq (.region id #[{ dst := some t1, op := .call { callee := .builtin .recover, args := #[], argTypes := #[] }, type := y1, pos := s1, after := #[], guard := none },
      { dst := some t2, op := .binOp .neq ti (.tmp t1) (.const .nilIface) tj, type := y2, pos := s2, after := ed, guard := none }] false) (.cond (.tmp t2) A .skip)))
    (hr : fn.results = #[]) (ht1 : t1 < fn.ntmps) (ht2 : t2 < fn.ntmps) (hname : (fn.name == "runtime.NumGoroutine") = false)
    (hcmp : ∀ W : World, (do eqGuard .neq ti (.tmp t1) (.const .nilIface) .nilIface .nilIface; binOp .neq ti .nilIface .nilIface : Sem Value).run P W = .ok (.bool false) W) : NoopD P f :=
  ⟨⟨fn, hf, by rw [hb]; rfl, hname⟩, fun args w => by
  refine callsDIn_of_wpSIn hf hb trivial fun c₀ cs hu => ?_
  have hrec : recoverD (c₀ :: cs) = none := by unfold recoverD; simp [hu]
  refine wpSIn_seq (wpSIn_region ?_)
  have h0 : ∀ (a : Act) (W : World), (execOp a.eval { dst := some t1, op := .call { callee := .builtin .recover, args := #[], argTypes := #[] }, type := y1, pos := s1, after := #[], guard := none }).run P W = .ok .recover W := fun a W => by
    unfold execOp
    simp [resolve, invoke, builtin]
  have h1 : ∀ (a : Act) (W : World), a.eval (.tmp t1) = .nilIface → (execOp a.eval { dst := some t2, op := .binOp .neq ti (.tmp t1) (.const .nilIface) tj, type := y2, pos := s2, after := ed, guard := none }).run P W = .ok (.value (.bool false)) W := fun a W ha => by
    have h2 := hcmp W
    unfold execOp
    simp only [ha, show a.eval (.const .nilIface) = Value.nilIface from rfl]
    simp only [Sem.run_bind] at h2 ⊢
    rw [h2]; rfl
  have hn : ∀ (a : Act) (u : Value) (t : Nat), t < a.tmps.size → (a.put (some t) u).eval (.tmp t) = u := fun a u t ha => by
    simp [Act.eval, Act.put, ha]
  have hs0 : fn.ntmps ≤ (args ++ Array.replicate (fn.ntmps - args.size) undef).size := by
    simp; omega
  generalize (args ++ Array.replicate (fn.ntmps - args.size) undef) = T at hs0
  simp only [List.size_toArray, List.length_cons, List.length_nil, Nat.reduceAdd, List.range, List.range.loop, wpOpsSIn, List.getElem?_toArray, List.getElem?_cons_zero, List.getElem?_cons_succ, Region.wanted, if_true, h0, hrec]
  refine ⟨fun _ _ => trivial, fun _ _ => trivial, ?_⟩
  rw [h1 _ w (hn _ _ _ (by show t1 < T.size; omega))]
  show Code.wpSIn Fence.wide 0 P (.cond (.tmp t2) _ .skip) _ ((({ tmps := T, defers := [] } : Act).put (some t1) .nilIface).put (some t2) (.bool false)) (c₀ :: cs) w
  refine wpSIn_cond (t := false) (hn _ _ _ (by show t2 < (T.setIfInBounds t1 _).size; rw [Array.size_setIfInBounds]; omega)) ?_
  refine wpSIn_of_wpIn rfl (wpIn_skip ?_)
  exact ⟨rfl, .returning, by rw [← hu], .tuple #[], (by unfold results; simp [hr]), ⟨_, rfl⟩, rfl, Below.refl _ w⟩⟩
end Go.Proofs.YtlfljoeafpimpaaGreatDoor
