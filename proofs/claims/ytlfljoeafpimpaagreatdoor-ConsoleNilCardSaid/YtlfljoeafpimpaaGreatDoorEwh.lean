/- The evaluator: code with its plans at hand. -/
import Derived.Test.YtlfljoeafpimpaaGreatDoorEwg
namespace Go.Proofs.YtlfljoeafpimpaaGreatDoor
open Go.RowKit

section
variable {P : Program} {Ty : Tr TypeInfo} {call : CallE} {ops : Array Oper} {lf : Nat}
theorem nthO_eq : ∀ (l : List Oper) (n : Nat), nthO l n = l[n]?
  | [], _ => rfl
  | _ :: _, 0 => rfl
  | _ :: l, n + 1 => nthO_eq l n
theorem attachP_eq : ∀ {l : List PlSt}, (∀ x ∈ l, ops[x.2.1]? = some x.2.2.1) → attachP ops.toList (stripP l) = some l
  | [], _ => rfl
  | x :: l, h => by
    have h1 := h x (List.mem_cons_self ..)
    have h2 := attachP_eq (l := l) fun y hy => h y (List.mem_cons_of_mem _ hy)
    show (match nthO ops.toList x.2.1, attachP ops.toList (stripP l) with
      | some o, some r => some ((x.1, x.2.1, o, x.2.2.2) :: r)
      | _, _ => none) = some (x :: l)
    rw [nthO_eq, Array.getElem?_toList, h1, h2]
theorem planGo_ops : ∀ {l : List PlSt} {m : Nat} {listed : Array Bool}, planGo Ty ops m listed = some l → ∀ x ∈ l, ops[x.2.1]? = some x.2.2.1
  | [], _, _, _, x, hx => by cases hx
  | y :: l, m, listed, h, x, hx => by
    obtain ⟨m', hp, hq⟩ := planGo_cons h
    rcases List.mem_cons.1 hx with rfl | hx
    · rcases hq with ⟨_, hq⟩ | ⟨_, hq⟩
      · exact hq.op
      · exact hq.op
    · exact planGo_ops hp x hx
theorem evDrP_eq {pl : Option (List PlI)} (h : chkR Ty pl ops = true) : evDrP Ty call pl ops = evDr Ty call ops := by
  funext F hp
  unfold evDrP
  split
  · rename_i l
    unfold chkR at h
    simp only at h
    split at h
    · rename_i q hq
      have hl := of_decide_eq_true h
      subst hl
      have hops : ∀ x ∈ q, ops[x.2.1]? = some x.2.2.1 := by
        unfold planE at hq
        split at hq
        · exact planGo_ops hq
        · cases hq
      rw [attachP_eq hops]
      unfold evDr
      rw [hq]
    · cases h
  · rfl
theorem evCodeP_eq {pt : PlT} : ∀ {c : Code}, chkC Ty pt c = true → evCodeP Ty call lf pt c = evCode Ty call lf c
  | .skip, _ => rfl
  | .region id ops d, h => by
    cases d with
    | false => rfl
    | true =>
      have h1 : chkR Ty (ptAt pt id) ops = true := h
      funext F hp
      show regE (evDrP Ty call (ptAt pt id) ops F hp) = regE (evDr Ty call ops F hp)
      rw [evDrP_eq h1]
  | .seq x y, h => by
    have h1 : (chkC Ty pt x && chkC Ty pt y) = true := h
    rw [Bool.and_eq_true] at h1
    funext F hp
    show thenE (evCodeP Ty call lf pt y) (evCodeP Ty call lf pt x F hp) = thenE (evCode Ty call lf y) (evCode Ty call lf x F hp)
    rw [evCodeP_eq h1.1, evCodeP_eq h1.2]
  | .cond c x y, h => by
    have h1 : (chkC Ty pt x && chkC Ty pt y) = true := h
    rw [Bool.and_eq_true] at h1
    funext F hp
    show condE F hp (opd F c) (evCodeP Ty call lf pt x) (evCodeP Ty call lf pt y) = condE F hp (opd F c) (evCode Ty call lf x) (evCode Ty call lf y)
    rw [evCodeP_eq h1.1, evCodeP_eq h1.2]
  | .block i x, h => by
    have h1 : chkC Ty pt x = true := h
    funext F hp
    show blockE i (evCodeP Ty call lf pt x F hp) = blockE i (evCode Ty call lf x F hp)
    rw [evCodeP_eq h1]
  | .loop x, h => by
    have h1 : chkC Ty pt x = true := h
    funext F hp
    show loopE (evCodeP Ty call lf pt x) lf F hp = loopE (evCode Ty call lf x) lf F hp
    rw [evCodeP_eq h1]
  | .rangeFunc _ _ _ _, _ => rfl
  | .exit _, _ => rfl
  | .scope x, h => by
    have h1 : chkC Ty pt x = true := h
    funext F hp
    show evCodeP Ty call lf pt x F hp = evCode Ty call lf x F hp
    rw [evCodeP_eq h1]
  | .label _, _ => rfl
  | .goto _, _ => rfl
  | .ret, _ => rfl
  | .refuse _, _ => rfl
theorem chkC_nil : ∀ c : Code, chkC Ty [] c = true
  | .skip => rfl
  | .region _ _ d => by
    show (!d || true) = true
    cases d <;> rfl
  | .seq x y => by
    show (chkC Ty [] x && chkC Ty [] y) = true
    rw [chkC_nil x, chkC_nil y]; rfl
  | .cond _ x y => by
    show (chkC Ty [] x && chkC Ty [] y) = true
    rw [chkC_nil x, chkC_nil y]; rfl
  | .block _ x => chkC_nil x
  | .loop x => chkC_nil x
  | .rangeFunc _ _ _ _ => rfl
  | .exit _ => rfl
  | .scope x => chkC_nil x
  | .label _ => rfl
  | .goto _ => rfl
  | .ret => rfl
  | .refuse _ => rfl
end
end Go.Proofs.YtlfljoeafpimpaaGreatDoor
