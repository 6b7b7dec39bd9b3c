/- Oracles of the evaluator: a call at the empty heap, told once with its answer and the heap behind it: so a long run is cut in two. -/
import Derived.Test.YtlfljoeafpimpaaGreatDoorPur
namespace Go.Proofs.YtlfljoeafpimpaaGreatDoor
open Go.RowKit

noncomputable def eqEs (a : List (RV × RV × Nat)) : List (RV × RV × Nat) → Bool :=
  List.rec (motive := fun _ => List (RV × RV × Nat) → Bool) (fun b => match b with
    | [] => true
    | _ :: _ => false) (fun x _ ih b => match b with
    | [] => false
    | y :: r => match eqRV x.1 y.1, eqRV x.2.1 y.2.1, Nat.beq x.2.2 y.2.2 with
      | true, true, true => ih r
      | _, _, _ => false) a
theorem eqEs_eq : ∀ {a b : List (RV × RV × Nat)}, eqEs a b = true → a = b
  | [], [], _ => rfl
  | [], _ :: _, h => by cases h
  | _ :: _, [], h => by cases h
  | (x1, x2, x3) :: a, (y1, y2, y3) :: b, h => by
    replace h : (match eqRV x1 y1, eqRV x2 y2, Nat.beq x3 y3 with
      | true, true, true => eqEs a b
      | _, _, _ => false) = true := h
    split at h
    · rename_i h1 h2 h3
      rw [eqRV_eq h1, eqRV_eq h2, Nat.eq_of_beq_eq_true h3, eqEs_eq h]
    · cases h
noncomputable def eqOb : RO → RO → Bool
  | .cells cs t, .cells ds u => eqSS cs ds && Nat.beq t u
  | .row cs t s, .row ds u z => eqSS cs ds && (Nat.beq t u && Nat.beq s z)
  | .map es c, .map fs d => eqEs es fs && Nat.beq c d
  | _, _ => false
theorem eqOb_eq {a b : RO} (h : eqOb a b = true) : a = b := by
  unfold eqOb at h
  split at h
  · rw [Bool.and_eq_true] at h
    rw [eqSS_eq h.1, Nat.eq_of_beq_eq_true h.2]
  · rw [Bool.and_eq_true, Bool.and_eq_true] at h
    rw [eqSS_eq h.1, Nat.eq_of_beq_eq_true h.2.1, Nat.eq_of_beq_eq_true h.2.2]
  · rw [Bool.and_eq_true] at h
    rw [eqEs_eq h.1, Nat.eq_of_beq_eq_true h.2]
  · cases h
/-- a heap that holds no more than another one -/
noncomputable def leO : Tr RO → Tr RO → Bool := Tr.rec (motive := fun _ => Tr RO → Bool) (fun _ => true) (fun v u => match u with
    | .leaf u => eqOb v u
    | _ => false) (fun _ _ il ir u => match u with
    | .node a b => il a && ir b
    | _ => false)
theorem leO_lf : ∀ {t u : Tr RO}, leO t u = true → leO t.lf u.lf = true ∧ leO t.rt u.rt = true
  | .nil, _, _ => ⟨rfl, rfl⟩
  | .leaf _, _, _ => ⟨rfl, rfl⟩
  | .node _ _, .nil, h => by cases h
  | .node _ _, .leaf _, h => by cases h
  | .node a b, .node c d, h => by
    replace h : (leO a c && leO b d) = true := h
    rw [Bool.and_eq_true] at h
    exact h
theorem leO_get : ∀ (d : Nat) {t u : Tr RO} {i : Nat} {o : RO}, leO t u = true → Tr.get d t i = some o → Tr.get d u i = some o
  | 0, .nil, _, i, o, _, hi => by rw [Tr.get_nil] at hi; cases hi
  | 0, .node _ _, _, i, o, _, hi => by cases hi
  | 0, .leaf x, .nil, _, _, h, _ => by cases h
  | 0, .leaf x, .node _ _, _, _, h, _ => by cases h
  | 0, .leaf x, .leaf y, i, o, h, hi => by
    have e := eqOb_eq (a := x) (b := y) h
    rw [e] at hi; exact hi
  | d + 1, t, u, i, o, h, hi => by
    obtain ⟨h1, h2⟩ := leO_lf h
    rw [Tr.get_succ] at hi ⊢
    split
    · rename_i h0
      rw [h0] at hi
      exact leO_get d h1 hi
    · rename_i h0
      split at hi
      · rename_i h3; exact (h0 h3).elim
      · exact leO_get d h2 hi
theorem RepH.less {B : Nat → Prop} {w0 w : World} {e : Nv} {h k : Hp} (r : RepH B w0 e h w) (hn : k.nx = h.nx) (hle : leO k.ob h.ob = true) : RepH B w0 e k w :=
  ⟨r.below, fun i o hi => by
    obtain ⟨h1, h2, h3, h4⟩ := r.obj i o (leO_get HD hle hi)
    exact ⟨by rw [hn]; exact h1, h2, h3, by rw [hn]; exact h4⟩, fun i j a b hi hj => r.inj i j a b (leO_get HD hle hi) (leO_get HD hle hj), r.env⟩
/-- the run's end is this very answer; the heap holds all of this one -/
noncomputable def eqRun (r : Option (RV × Hp)) (v : RV) (h : Hp) : Bool := match r with
  | some (u, k) => eqRV u v && (Nat.beq h.nx k.nx && leO h.ob k.ob)
  | none => false
/-- a call at the empty heap -/
noncomputable def constH (xs : List RV) (v : RV) (h1 : Hp) : OrcE := fun ys h => match eqRL ys xs, h with
  | true, ⟨0, .nil⟩ => some (v, h1)
  | _, _ => none
theorem constH_ok {P : Program} {call : CallE} (hc : CallOk P call) {f : FuncId} {xs : List RV} {v : RV} {h1 : Hp} (hv : eqRun (call.fn f xs hE) v h1 = true) (B : Nat → Prop) (w0 : World) : OrcOk P B w0 f (constH xs v h1) := by
  intro ys e h u h' w r hy hu
  unfold constH at hu
  split at hu
  · rename_i heq
    injection hu with hu
    injection hu with e1 e2; subst e1 e2
    obtain rfl := eqRL_eq heq
    unfold eqRun at hv
    split at hv
    · rename_i u2 k hrun
      rw [Bool.and_eq_true, Bool.and_eq_true] at hv
      obtain ⟨h2, h3, h4⟩ := hv
      have e2 := eqRV_eq h2
      subst e2
      have hn : h1.nx = k.nx := Nat.eq_of_beq_eq_true h3
      obtain ⟨hE2, hC⟩ := hc.fn f ys e hE u2 k w r hy hrun
      refine ⟨hE2, hC.mono fun en w' hg => ?_⟩
      cases en with
      | returned x =>
        obtain ⟨e', hx, r', hle, hlt, rfl⟩ := hg
        exact ⟨e', hx, r'.less hn h4, by rw [hn]; exact hle, by rw [hn]; exact hlt, rfl⟩
      | panicked c => exact hg.elim
      | outgrown => exact hg.elim
    · cases hv
  · cases hu
end Go.Proofs.YtlfljoeafpimpaaGreatDoor
