/- The evaluator: numbers, Booleans, texts; is it nil. -/
import Derived.Test.YtkjgmakaidfgaaaGreatDoorEve
import Derived.Laws.Strings
namespace Go.Proofs.YtkjgmakaidfgaaaGreatDoor
open Go.RowKit

section
variable {P : Program} {Ty : Tr TypeInfo}
def wrB (k : IntKind) (n : Int) : Option Value := some (.int k (k.wrap n))
def boB (b : Bool) : Option Value := some (.bool b)
def quoB (k : IntKind) (x y : Int) : Option Value := match decide (y = 0) with
  | true => none
  | false => some (.int k (k.wrap (x.tdiv y)))
def remB (k : IntKind) (x y : Int) : Option Value := match decide (y = 0) with
  | true => none
  | false => some (.int k (x.tmod y))
def andB (k : IntKind) (x y : Int) : Option Value := some (.int k (k.wrap ((BitVec.ofInt k.bits x) &&& (BitVec.ofInt k.bits y)).toNat))
def orB (k : IntKind) (x y : Int) : Option Value := some (.int k (k.wrap ((BitVec.ofInt k.bits x) ||| (BitVec.ofInt k.bits y)).toNat))
def xorB (k : IntKind) (x y : Int) : Option Value := some (.int k (k.wrap ((BitVec.ofInt k.bits x) ^^^ (BitVec.ofInt k.bits y)).toNat))
def andNotB (k : IntKind) (x y : Int) : Option Value := some (.int k (k.wrap ((BitVec.ofInt k.bits x) &&& ~~~(BitVec.ofInt k.bits y)).toNat))
def intB (op : BinOp) (k : IntKind) (x y : Int) : Option Value :=
  match op with
  | .add => wrB k (x + y)
  | .sub => wrB k (x - y)
  | .mul => wrB k (x * y)
  | .quo => quoB k x y
  | .rem => remB k x y
  | .and => andB k x y
  | .or => orB k x y
  | .xor => xorB k x y
  | .andNot => andNotB k x y
  | .eql => boB (x == y)
  | .neq => boB (x != y)
  | .lss => boB (x < y)
  | .leq => boB (x ≤ y)
  | .gtr => boB (x > y)
  | .geq => boB (x ≥ y)
  | _ => none
theorem intB_run {op : BinOp} {k : IntKind} {x y : Int} {v : Value} (h : intB op k x y = some v) (hs : op ≠ .shl ∧ op ≠ .shr) (t : TypeId) (w : World) : (binOp op t (.int k x) (.int k y)).run P w = .ok v w := by
  cases op <;> simp [intB, wrB, boB, quoB, remB, andB, orB, xorB, andNotB] at h hs <;> first
    | (subst h; simp [binOp, Op.intArith, Op.intBits, Op.intCmp])
    | (split at h
       · cases h
       · rename_i h0
         have h0 : ¬ y = 0 := by simpa using h0
         simp only [Option.some.injEq] at h
         subst h
         simp [binOp, Op.intDiv, h0])
def shiftB (op : BinOp) (k : IntKind) (x y : Int) : Option Value :=
  match decide (y < 0), op with
  | false, .shl => some (.int k (k.wrap (x * 2 ^ (min y.toNat k.bits))))
  | false, .shr => some (.int k (x.fdiv (2 ^ (min y.toNat k.bits))))
  | _, _ => none
theorem shiftB_run {op : BinOp} {k j : IntKind} {x y : Int} {v : Value} (h : shiftB op k x y = some v) (t : TypeId) (w : World) : (binOp op t (.int k x) (.int j y)).run P w = .ok v w := by
  unfold shiftB at h
  split at h
  · rename_i h0
    have h0 : ¬ y < 0 := by simpa using h0
    injection h with h
    subst h
    simp [binOp, Op.shift, h0]
  · rename_i h0
    have h0 : ¬ y < 0 := by simpa using h0
    injection h with h
    subst h
    simp [binOp, Op.shift, h0]
  · cases h
def strB (op : BinOp) (x y : ByteArray) : Option Value :=
  match op with
  | .add => match Nat.ble (x.size + y.size) 1000000000 with
    | true => some (.string (x ++ y))
    | false => none
  | .eql => some (.bool (x.data.toList == y.data.toList))
  | .neq => some (.bool !(x.data.toList == y.data.toList))
  | .lss => some (.bool (Op.bytesLess x.data.toList y.data.toList))
  | .geq => some (.bool !(Op.bytesLess x.data.toList y.data.toList))
  | .gtr => some (.bool !(Op.bytesLess x.data.toList y.data.toList || x.data.toList == y.data.toList))
  | .leq => some (.bool (Op.bytesLess x.data.toList y.data.toList || x.data.toList == y.data.toList))
  | _ => none
theorem strB_run {op : BinOp} {x y : ByteArray} {v : Value} (h : strB op x y = some v) (t : TypeId) (w : World) : (binOp op t (.string x) (.string y)).run P w = .ok v w := by
  cases op <;> simp only [strB] at h <;> first
    | (cases h; done)
    | (injection h with h; subst h; simp only [binOp, Op.stringOp, ByteArray.toList_eq]; rfl)
    | (split at h
       · rename_i h0
         have h0 := Nat.le_of_ble_eq_true h0
         injection h with h
         subst h
         have h1 : ¬ (((x.size + y.size : Nat) : Int) > IntKind.i64.max) := by
           have : IntKind.i64.max = 9223372036854775807 := rfl
           rw [this]; omega
         simp only [binOp, Op.stringOp, h1, if_false]
         rfl
       · cases h)
/-- is one the other, where one at least is nil? -/
def nilEq : TypeDesc → RV → RV → Option Bool
  | .pointer _, .lit (.pointer none), .lit (.pointer none) => some true
  | .pointer _, .ptr _ _, .lit (.pointer none) => some false
  | .pointer _, .lit (.pointer none), .ptr _ _ => some false
  | .slice _, .lit (.slice none _ _), .lit (.slice none _ _) => some true
  | .slice _, .sl _ _ _ _, .lit (.slice none _ _) => some false
  | .slice _, .slu _ _ _ _, .lit (.slice none _ _) => some false
  | .slice _, .sle _ _ _ _, .lit (.slice none _ _) => some false
  | .map _ _, .lit (.map none), .lit (.map none) => some true
  | .map _ _, .mp _, .lit (.map none) => some false
  | .func _ _ _, .lit .nilFunc, .lit .nilFunc => some true
  | .func _ _ _, .fn _ _ _, .lit .nilFunc => some false
  | .func _ _ _, .yld _, .lit .nilFunc => some false
  | .interface _, .ifc _ _, .lit .nilIface => some false
  | .interface _, .lit .nilIface, .lit .nilIface => some true
  | .bool, .lit (.bool a), .lit (.bool b) => some (a == b)
  | _, _, _ => none
theorem nilEq_in {e : Nv} {t : TypeId} {d : TypeDesc} {x y : RV} {b : Bool} (hur : ∀ w, (underlying t).run P w = .ok d w) (hx : nilEq d x y = some b) (w : World) (n : Nat) :
    (Op.equalIn (n + 1) t (RV.tr e x) (RV.tr e y)).run P w = .ok b w := by
  unfold nilEq at hx
  split at hx <;> first
    | (cases hx; done)
    | (injection hx with hx
       subst hx
       simp only [RV.tr, Op.equalIn, Sem.run_bind, hur, Result.andThen_ok]
       first
         | rfl
         | (split <;> rfl)
         | simp)
theorem nilEq_run (K : TyOk P Ty) {e : Nv} {t : TypeId} {d : TypeDesc} {x y : RV} {b : Bool} (hu : undE Ty t = some d) (hx : nilEq d x y = some b) (w : World) :
    (Op.equal t (RV.tr e x) (RV.tr e y)).run P w = .ok b w := nilEq_in (K.undRun hu) hx w 9999
/-- comparisons and arithmetic -/
def isShift : BinOp → Bool
  | .shl => true
  | .shr => true
  | _ => false
def intBB (op : BinOp) (k : IntKind) (a : Int) (j : IntKind) (b : Int) : Option RV := match isShift op with
  | true => (shiftB op k a b).map .lit
  | false => match decide (k = j) with
    | true => (intB op k a b).map .lit
    | false => none
def litB (op : BinOp) (a b : Value) : Option RV := match a with
  | .int k x => match b with
    | .int j y => intBB op k x j y
    | _ => none
  | .string x => match b with
    | .string y => (strB op x y).map .lit
    | _ => none
  | _ => none
def evBin (op : BinOp) (x y : RV) : Option RV := match x with
  | .lit a => match y with
    | .lit b => litB op a b
    | _ => none
  | _ => none
theorem evBin_run {e : Nv} {op : BinOp} {t : TypeId} {x y v : RV} (hv : evBin op x y = some v) (w : World) : (binOp op t (RV.tr e x) (RV.tr e y)).run P w = .ok (RV.tr e v) w ∧ ∃ u, v = .lit u := by
  unfold evBin at hv
  split at hv
  · split at hv
    · unfold litB at hv
      split at hv
      · split at hv
        · unfold intBB at hv
          split at hv
          · obtain ⟨u, h1, rfl⟩ := Option.map_eq_some_iff.1 hv
            exact ⟨shiftB_run h1 t w, u, rfl⟩
          · rename_i hsh
            split at hv
            · rename_i hk
              obtain rfl := of_decide_eq_true hk
              obtain ⟨u, h1, rfl⟩ := Option.map_eq_some_iff.1 hv
              refine ⟨intB_run h1 ?_ t w, u, rfl⟩
              constructor <;> (intro e; subst e; cases hsh)
            · cases hv
        · cases hv
      · split at hv
        · obtain ⟨u, h1, rfl⟩ := Option.map_eq_some_iff.1 hv
          exact ⟨strB_run h1 t w, u, rfl⟩
        · cases hv
      · cases hv
    · cases hv
  · cases hv
end
end Go.Proofs.YtkjgmakaidfgaaaGreatDoor
