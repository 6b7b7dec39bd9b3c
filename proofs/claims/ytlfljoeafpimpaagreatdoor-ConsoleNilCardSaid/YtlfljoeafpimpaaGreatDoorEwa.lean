/- A region whose order is drawn: operations that only read are taken first; what they read is kept in view until somebody who waits for them has come up. Any program. -/
import Derived.Test.YtlfljoeafpimpaaGreatDoorEvp
import Derived.OrdersIn
namespace Go.Proofs.YtlfljoeafpimpaaGreatDoor

section
variable {rr : Option Nat} {P : Program} {ops : Array Oper} {Q : Exit → Act → World → Prop} {md : Region.Mode}
abbrev Sx := Array Bool → World → Prop
/-- whatever order is picked, and S holds behind every operation -/
def wpG (rr : Option Nat) (P : Program) (md : Region.Mode) (ops : Array Oper) (Q : Exit → Act → World → Prop) (S : Sx) : Nat → Array Bool → Act → World → Prop
  | 0, listed, a, w => Region.ready md ops listed = [] ∧ Q .normal a w
  | fuel + 1, listed, a, w =>
    (Region.ready md ops listed = [] → Q .normal a w) ∧
    ∀ i ∈ Region.ready md ops listed, wpOpIn (rd rr) 0 P ops Q i (fun a' w' => S (listed.setIfInBounds i true) w' ∧ wpG rr P md ops Q S fuel (listed.setIfInBounds i true) a' w') a w
theorem wpAny_of_G {S : Sx} : ∀ (fuel : Nat) (listed : Array Bool) (a : Act) (w : World), wpG rr P md ops Q S fuel listed a w → wpAnyIn (rd rr) 0 P md ops Q fuel listed a w
  | 0, _, _, _, h => h
  | fuel + 1, _, _, _, h => ⟨h.1, fun i hi => wpOpIn_mono (fun a' w' h' => wpAny_of_G fuel _ a' w' h'.2) (h.2 i hi)⟩
/-- more has come up -/
def Up (l m : Array Bool) : Prop := ∀ k, l.getD k false = true → m.getD k false = true
theorem Up.refl (l : Array Bool) : Up l l := fun _ h => h
theorem Up.trans {l m n : Array Bool} (h : Up l m) (k : Up m n) : Up l n := fun i hi => k i (h i hi)
theorem Up.set (l : Array Bool) (i : Nat) : Up l (l.setIfInBounds i true) := fun _ h => getD_set_true h
theorem wpG_mono {S S' : Sx} : ∀ (fuel : Nat) (listed : Array Bool) (a : Act) (w : World), (∀ m w, Up listed m → S m w → S' m w) → wpG rr P md ops Q S fuel listed a w → wpG rr P md ops Q S' fuel listed a w
  | 0, _, _, _, _, h => h
  | fuel + 1, listed, _, _, hS, h => ⟨h.1, fun i hi => wpOpIn_mono (fun a' w' h' => ⟨hS _ _ (Up.set listed i) h'.1, wpG_mono fuel _ a' w' (fun m w hm hs => hS m w ((Up.set listed i).trans hm) hs) h'.2⟩) (h.2 i hi)⟩
/-- what has come up had all come up that it waits for -/
def Shut (md : Region.Mode) (ops : Array Oper) (listed : Array Bool) : Prop :=
  ∀ j oj, ops[j]? = some oj → listed.getD j false = true → ∀ e ∈ oj.after, Region.binds md e = true → listed.getD e.on false = true
theorem getD_set_false {listed : Array Bool} {i j : Nat} (h : i ≠ j) : (listed.setIfInBounds i true).getD j false = listed.getD j false := by
  simp [Array.getElem?_setIfInBounds_ne h]
theorem Shut.set {listed : Array Bool} {i : Nat} (h : Shut md ops listed) (hi : i ∈ Region.ready md ops listed) : Shut md ops (listed.setIfInBounds i true) := by
  intro j oj hj hl e he hb
  obtain ⟨_, o, ho, hall⟩ := mem_ready.1 hi
  refine getD_set_true ?_
  by_cases hij : i = j
  · subst hij
    rw [ho] at hj
    injection hj with hj; subst hj
    exact hall e he hb
  · rw [getD_set_false hij] at hl
    exact h j oj hj hl e he hb
theorem Shut.none (n : Nat) : Shut md ops (Array.replicate n false) := by
  intro j oj _ hl
  rw [Array.getD_eq_getD_getElem?, Array.getElem?_replicate] at hl
  split at hl <;> simp at hl
theorem ready_out {i : Nat} {listed : Array Bool} (hi : i ∈ Region.ready md ops listed) : listed.getD i false = false := by
  have h := (mem_ready.1 hi).1
  rw [Array.getD_eq_getD_getElem?] at h ⊢
  cases hg : listed[i]? with
  | none => rfl
  | some b => rw [hg] at h; simpa using h
/-- from here on, as long as it has not come up, it yields v -/
def YieldsG (P : Program) (md : Region.Mode) (ops : Array Oper) (S : Sx) (i : Nat) (o : Oper) (v : Value) (a : Act) (listed : Array Bool) : Prop :=
  (Region.wanted o (yielded ops a.tmps) = true ∧ ∀ m, Up listed m → Shut md ops m → m.getD i false = false → ∀ w, S m w → (execOp a.eval o).run P w = .ok (.value v) w) ∨
  (Region.wanted o (yielded ops a.tmps) = false ∧ v = undef)
variable {S : Sx}
theorem YieldsG.up {i : Nat} {o : Oper} {v : Value} {a : Act} {l m : Array Bool} (h : YieldsG P md ops S i o v a l) (hm : Up l m) : YieldsG P md ops S i o v a m :=
  h.imp (fun ⟨hw, hv⟩ => ⟨hw, fun n hn => hv n (hm.trans hn)⟩) id
theorem YieldsG.of_same {i : Nat} {o : Oper} {v : Value} {a a' : Act} {l : Array Bool} (hy : YieldsG P md ops S i o v a l) (he : execOp a'.eval o = execOp a.eval o)
    (hw : Region.wanted o (yielded ops a'.tmps) = Region.wanted o (yielded ops a.tmps)) : YieldsG P md ops S i o v a' l := by
  unfold YieldsG at *
  rw [he, hw]
  exact hy
theorem YieldsG.wpOpIn {i : Nat} {o : Oper} {v : Value} {a : Act} {l : Array Bool} (hnd : ∀ c, o.op ≠ .defer c) (hi : ops[i]? = some o) (hy : YieldsG P md ops S i o v a l) (hc : Shut md ops l) (hl : l.getD i false = false)
    {K : Act → World → Prop} {w : World} (hS : S l w) (h : K (a.put o.dst v) w) : wpOpIn (rd rr) 0 P ops Q i K a w := by
  unfold Go.wpOpIn
  simp only [hi]
  rcases hy with ⟨hw, hv⟩ | ⟨hw, rfl⟩
  · simp only [hw, if_true, Oper.wpIn]
    refine ⟨fun _ _ => trivial, ?_⟩
    rw [Oper.semAt_eq _ _ _ hnd, hv l (Up.refl l) hc hl w hS]
    exact h
  · simp only [hw, Bool.false_eq_true, if_false]; exact ⟨fun _ _ => trivial, h⟩
theorem wpOpIn_putG {i j : Nat} {oi oj : Oper} {v : Value} {l : Array Bool} (hj : ops[j]? = some oj) (hap : oi.apart ops oj = true) (hnd : ∀ c, oj.op ≠ .defer c)
    (hsi : ∀ cs b, oi.op ≠ .select cs b) (hsj : ∀ cs b, oj.op ≠ .select cs b)
    (hQ : ∀ c a w, Q (.panic c) (a.put oi.dst v) w → Q (.panic c) a w) {K : Act → World → Prop} {a : Act} {w : World}
    (hy : YieldsG P md ops S i oi v a l) (h : wpOpIn (rd rr) 0 P ops Q j K (a.put oi.dst v) w) :
    wpOpIn (rd rr) 0 P ops Q j (fun a' w' => YieldsG P md ops S i oi v a' l ∧ K (a'.put oi.dst v) w') a w := by
  obtain ⟨h1, h2, h3⟩ := Oper.apart_spec hap
  have keep : ∀ (a : Act), YieldsG P md ops S i oi v a l → ∀ u, YieldsG P md ops S i oi v (a.put oj.dst u) l := fun a hy u =>
    hy.of_same (execOp_put oi hsi a oj.dst u h3) (wanted_put oi a oj.dst u h3)
  have keepD : ∀ d, YieldsG P md ops S i oi v { a with defers := d :: a.defers } l := fun d => hy.of_same rfl rfl
  unfold wpOpIn at *
  simp only [hj] at *
  rw [wanted_put oj a oi.dst v h1] at h
  split
  · rename_i hw
    simp only [hw, if_true] at h
    unfold Oper.wpIn at *
    refine ⟨fun _ _ => trivial, ?_⟩
    have h := h.2
    rw [Oper.semAt_eq _ _ _ hnd, execOp_put oj hsj a oi.dst v h1] at h
    rw [Oper.semAt_eq _ _ _ hnd]
    generalize (execOp a.eval oj).run P w = r at *
    cases r with
    | ok x w' =>
      cases x <;> simp only [Oper.uponIn] at h ⊢
      case value u => exact ⟨keep a hy u, by rw [← Act.put_comm a v u h2]; exact h⟩
      case skip => exact ⟨keep a hy _, by rw [← Act.put_comm a v undef h2]; exact h⟩
      case defer d =>
        refine ⟨keep _ (keepD d) _, ?_⟩
        rw [← Act.put_comm _ v undef h2, ← Act.put_defers]
        exact h
      case enter f args =>
        refine ⟨h.1, CallsIn.mono h.2 fun e w'' he => ?_⟩
        cases e with
        | returned u => exact ⟨keep a hy u, by rw [← Act.put_comm a v u h2]; exact he⟩
        | panicked c => exact hQ _ _ _ he
        | outgrown => exact he
      case row row args => exact ⟨h.1, RowsIn.mono h.2 fun u w'' he => ⟨keep a hy u, by rw [← Act.put_comm a v u h2]; exact he⟩⟩
      case round l f tmps assign body =>
        refine ⟨h.1, RoundIn.mono h.2 fun e w'' he => ?_⟩
        cases e with
        | returned u => exact ⟨keep a hy u, by rw [← Act.put_comm a v u h2]; exact he⟩
        | panicked c => exact hQ _ _ _ he
        | outgrown => exact he
    | halt x w' =>
      cases x <;> simp only [Oper.uponIn] at h ⊢
      case panic u => exact hQ _ _ _ h
  · rename_i hw
    simp only [hw] at h
    exact ⟨fun _ _ => trivial, keep a hy _, by rw [← Act.put_comm a v undef h2]; exact h.2⟩
/-- S does not ask whether i has come up -/
def Blind (S : Sx) (i : Nat) : Prop := ∀ m w, S (m.setIfInBounds i true) w ↔ S m w
/-- an operation that may come up now may be taken first -/
theorem wpG_first {i : Nat} {oi : Oper} {v : Value} (hi : ops[i]? = some oi) (hnd : ∀ (j : Nat) (o : Oper) c, ops[j]? = some o → o.op ≠ .defer c) (hsel : ∀ (j : Nat) (o : Oper) cs b, ops[j]? = some o → o.op ≠ .select cs b)
    (hQ : ∀ c a w, Q (.panic c) (a.put oi.dst v) w → Q (.panic c) a w) (hB : Blind S i) :
    ∀ (fuel : Nat) (listed : Array Bool) (a : Act) (w : World),
      (∀ j oj, ops[j]? = some oj → j ≠ i → listed.getD j true = false → (∀ e ∈ oj.after, Region.binds md e = true → e.on ≠ i) → oi.apart ops oj = true) →
      i ∈ Region.ready md ops listed → Shut md ops listed → YieldsG P md ops S i oi v a listed → S listed w →
      wpG rr P md ops Q S fuel (listed.setIfInBounds i true) (a.put oi.dst v) w → wpG rr P md ops Q S (fuel + 1) listed a w := by
  intro fuel
  induction fuel with
  | zero =>
    intro listed a w _ hr hc hy hS H
    refine ⟨fun h => (by rw [h] at hr; cases hr), fun j hj => ?_⟩
    by_cases hji : j = i
    · subst hji; exact hy.wpOpIn (fun c => hnd _ _ c hi) hi hc (ready_out hr) hS ⟨(hB _ _).2 hS, H⟩
    · have := ready_mono hj hji
      rw [H.1] at this
      cases this
  | succ fuel ih =>
    intro listed a w hfree hr hc hy hS H
    refine ⟨fun h => (by rw [h] at hr; cases hr), fun j hj => ?_⟩
    by_cases hji : j = i
    · subst hji; exact hy.wpOpIn (fun c => hnd _ _ c hi) hi hc (ready_out hr) hS ⟨(hB _ _).2 hS, H⟩
    · have h1 := H.2 j (ready_mono hj hji)
      obtain ⟨hjun, oj, hoj, hall⟩ := mem_ready.1 hj
      have hnot : ∀ e ∈ oj.after, Region.binds md e = true → e.on ≠ i := fun e he hb heq => by
        have h1 := hall e he hb
        rw [heq, ready_out hr] at h1
        cases h1
      have h2 := wpOpIn_putG hoj (hfree j oj hoj hji hjun hnot) (fun c => hnd j oj c hoj) (fun cs b => hsel i oi cs b hi) (fun cs b => hsel j oj cs b hoj) hQ hy h1
      have hfree' : ∀ k ok, ops[k]? = some ok → k ≠ i → (listed.setIfInBounds j true).getD k true = false →
          (∀ e ∈ ok.after, Region.binds md e = true → e.on ≠ i) → oi.apart ops ok = true := fun k ok hk hki hun hno => by
        refine hfree k ok hk hki ?_ hno
        by_cases hjk : j = k
        · subst hjk; exact hjun
        · rw [getD_set_ne true hjk] at hun; exact hun
      have hcomm : (listed.setIfInBounds i true).setIfInBounds j true = (listed.setIfInBounds j true).setIfInBounds i true := (Array.setIfInBounds_comm _ _ hji).symm
      refine wpOpIn_mono (fun a' w' h3 => ?_) h2
      have hSj : S (listed.setIfInBounds j true) w' := (hB _ _).1 (by rw [← hcomm]; exact h3.2.1)
      refine ⟨hSj, ih (listed.setIfInBounds j true) a' w' hfree' (ready_mono hr (Ne.symm hji)) (hc.set hj) (h3.1.up (Up.set _ _)) hSj ?_⟩
      rw [Array.setIfInBounds_comm _ _ hji]
      exact h3.2.2
end
end Go.Proofs.YtlfljoeafpimpaaGreatDoor
