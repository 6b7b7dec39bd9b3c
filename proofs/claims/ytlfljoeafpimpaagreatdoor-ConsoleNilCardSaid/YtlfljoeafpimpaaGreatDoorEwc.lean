/- The evaluator: what a call, and a round of a loop over a function, promise. -/
import Derived.Test.YtlfljoeafpimpaaGreatDoorEwg
import Derived.RangeFuncIn
import Derived.RangeFuncRecord
import Derived.RangeFuncLeaves
import Derived.LoopNIn
import Derived.Scope
namespace Go.Proofs.YtlfljoeafpimpaaGreatDoor
open Go.RowKit

section
variable {P : Program} {Ty : Tr TypeInfo} {B : Nat → Prop} {w0 : World} {call : CallE} {lf : Nat}
def Gives (B : Nat → Prop) (w0 : World) (e : Nv) (h : Hp) (v : RV) (h' : Hp) : Ending → World → Prop
  | .returned u, w' => ∃ e', Nv.ext h.nx e e' ∧ RepH B w0 e' h' w' ∧ h.nx ≤ h'.nx ∧ RV.lt h'.nx v ∧ u = RV.tr e' v
  | _, _ => False
/-- a call of it goes to its body -/
def Enters (P : Program) (f : FuncId) : Prop := ∃ fn, P.funcs[f]? = some fn ∧ fn.body.isSome = true ∧ (fn.name == "runtime.NumGoroutine") = false
theorem Enters.run {f : FuncId} (hE : Enters P f) (args : Array Value) (w : World) : (callFunc f args).run P w = .ok (.enter f args) w := by
  obtain ⟨fn, h1, h2, h3⟩ := hE
  have h4 : fn.body.isNone = false := by cases hb : fn.body <;> simp_all
  unfold callFunc
  simp only [Sem.run_bind, run_program, Result.andThen_ok, h1, h3, h4, Bool.false_eq_true, if_false, Sem.run_pure]
/-- what a call put aside comes to -/
def Lasts (B : Nat → Prop) (w0 : World) (e : Nv) (h h' : Hp) : Ending → FrameMode → World → Prop := fun en u w' => (∃ v, en = .returned v) ∧ u = .returning ∧ ∃ e', Nv.ext h.nx e e' ∧ RepH B w0 e' h' w' ∧ h.nx ≤ h'.nx
/-- the temporaries of a round -/
def rTmps (r : Loop) (args : Array Value) : Array Value := (r.params.zip args).foldl (fun tmps (x : Tmp × Value) => tmps.setIfInBounds x.1 x.2) r.tmps
structure CallOk (P : Program) (call : CallE) : Prop where
  flat : FlatOk P call.flat
  fn : ∀ {B : Nat → Prop} {w0 : World} (f : FuncId) (xs : List RV) (e : Nv) (h : Hp) (v : RV) (h' : Hp) (w : World), RepH B w0 e h w → ltL h.nx xs → call.fn f xs h = some (v, h') → Enters P f ∧ Calls P f (trL e xs).toArray w (Gives B w0 e h v h')
  yl : ∀ {B : Nat → Prop} {w0 : World} (b : Nat) (xs : List RV) (e : Nv) (h : Hp) (v : RV) (h' : Hp) (w : World), RepH B w0 e h w → ltL h.nx xs → call.yl b xs h = some (v, h') →
    ∃ r : Loop, w.heap[e.at_ b]? = some (.loop r) ∧ (trL e xs).toArray.size = r.params.size ∧ RoundIn Fence.wide 0 P (e.at_ b) r.fn (rTmps r (trL e xs).toArray) r.assign r.body w (Gives B w0 e h v h')
  df : ∀ {B : Nat → Prop} {w0 : World} (f : FuncId) (xs : List RV) (e : Nv) (h h' : Hp) (w : World), RepH B w0 e h w → ltL h.nx xs → call.df f xs h = some h' → Enters P f ∧ CallsDIn Fence.wide 0 P f (trL e xs).toArray .returning w (Lasts B w0 e h h')
theorem rd_calls {rr : Option Nat} {n : Nat} {f : FuncId} {args : Array Value} {w : World} {R : Ending → World → Prop} (h : Calls P f args w R) : CallsIn (rd rr) n P f args w R := by
  have h1 : CallsIn Fence.wide n P f args w R := callsIn_wide.2 h
  exact h1
theorem calls_rd {rr : Option Nat} {n : Nat} {f : FuncId} {args : Array Value} {w : World} {R : Ending → World → Prop} (h : CallsIn (rd rr) n P f args w R) : Calls P f args w R :=
  (callsIn_wide (n := n)).1 (show CallsIn Fence.wide n P f args w R from h)
theorem rd_room (rr : Option Nat) (n : Nat) : (rd rr).room n := fun _ h => by cases h
theorem wpIn_scope_straight {F : Fence} {n : Nat} {Q : Exit → Act → World → Prop} {a : Act} {w : World} {c : Code} (h : c.wpIn F n P (Exit.noGoto Q) a w) : (Code.scope c).wpIn F n P Q a w := by
  intro b k cs hro hb hr
  have h0 : (lone (b.atR a (.code (.scope c) :: k)) cs w).fenced P F := fenced_calm hb hr rfl
  have s0 : step P (lone (b.atR a (.code (.scope c) :: k)) cs w) = .next (lone (b.atR a (.code c :: .inScope c :: k)) cs w) := step_lone_go (by simp [stepG, stepG.exec, Frame.atR])
  have s1 : ∀ a w, step P (lone (b.atR a (.inScope c :: k)) cs w) = .next (lone (b.atR a k) cs w) := fun a w => step_lone_go (by simp [stepG, stepG.exec, Frame.atR])
  obtain ⟨e, a₁, w₁, hq, harr⟩ := h b (.inScope c :: k) cs hro hb hr
  cases e with
  | normal => exact ⟨.normal, a₁, w₁, hq, .head h0 s0 (StepsIn.trans harr (.one (fenced_calm hb hr rfl) (s1 _ _)))⟩
  | exit id =>
    have hx : exitTo id (.inScope c :: k) = exitTo id k := by simp [exitTo]
    exact ⟨.exit id, a₁, w₁, hq, fun k' hk => .head h0 s0 (harr.1 k' (by rw [hx]; exact hk)),
      fun hr' hk => let ⟨k₁, h1, h2⟩ := harr.2 hr' (by rw [hx]; exact hk); ⟨k₁, h1, .head h0 s0 h2⟩⟩
  | goto l => exact hq.elim
  | ret => exact ⟨_, a₁, w₁, hq, .of_steps (.one h0 s0) harr⟩
  | panic ch => exact ⟨_, a₁, w₁, hq, .of_steps (.one h0 s0) harr⟩
  | outgrown => exact ⟨_, a₁, w₁, hq, .of_steps (.one h0 s0) harr⟩
end
end Go.Proofs.YtlfljoeafpimpaaGreatDoor
