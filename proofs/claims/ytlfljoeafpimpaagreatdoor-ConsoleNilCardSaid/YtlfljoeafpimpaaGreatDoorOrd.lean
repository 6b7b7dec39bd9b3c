/- Oracles of the evaluator, as functions: sorted keys; a constant answer. Checks on lists of numbers. -/
import Derived.Test.YtlfljoeafpimpaaGreatDoorOrc
namespace Go.Proofs.YtlfljoeafpimpaaGreatDoor
open Go.RowKit

/-! ### checks on lists of numbers -/
noncomputable def nodupN (l : List Nat) : Bool := List.rec (motive := fun _ => Bool) true (fun n r ih => match hasN n r with
  | true => false
  | false => ih) l
/-- the stamps of a map's entries: below the clock, no one twice -/
noncomputable def stampE (ck : Nat) (es : List (RV × RV × Nat)) : Bool := match bornLt ck es, nodupN (es.map fun x => x.2.2) with
  | true, true => true
  | _, _ => false
def nilS : RV := .lit (.slice none 0 0)
/-! ### sorted keys -/
def keyN : RV → Option Nat
  | .lit (.int .i64 (.ofNat n)) => some n
  | _ => none
def keysN : List (RV × RV × Nat) → Option (List Nat)
  | [] => some []
  | x :: r => match keyN x.1, keysN r with
    | some n, some l => some (n :: l)
    | _, _ => none
def insN (n : Nat) : List Nat → List Nat
  | [] => [n]
  | m :: r => match Nat.ble n m with
    | true => n :: m :: r
    | false => m :: insN n r
def sortN : List Nat → List Nat
  | [] => []
  | n :: r => insN n (sortN r)
noncomputable def sortO (keysF : FuncId → Bool) : OrcE := fun xs h => match xs with
  | [.fn (.func f) [] [.ptr c 0]] => match keysF f, h.at? c with
    | true, some (.cells [.one (.mp m)] _) => match h.at? m, h.room with
      | some (.map es ck), true => match keysN es with
        | some ns => match stampE ck es, nodupN ns, ns.all (fun n => Nat.ble n 1000000000000), Nat.ble ns.length 100000 with
          | true, true, true, true => match ns with
            | [] => some (nilS, h)
            | _ => some (.slu h.nx 0 ns.length 0, h.add (.row ((sortN ns).map fun n => .one (.lit (.int .i64 (.ofNat n)))) 3 1))
          | _, _, _, _ => none
        | none => none
      | _, _ => none
    | _, _ => none
  | _ => none
/-! ### the run -/
def flatS (t : TypeId) : Bool := hasN t flatL
def dnoS (f : FuncId) : Bool := hasN f dnoL
def nibV : RV := .agg crcS
def okR (r : Option (RV × Hp)) (v : Bool) : Bool := match r with
  | some (.lit (.bool b), _) => b == v
  | _ => false
end Go.Proofs.YtlfljoeafpimpaaGreatDoor
