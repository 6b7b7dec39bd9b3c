/- The evaluator: addresses of fields and elements, elements of values, parts of tuples, checks. -/
import Derived.Test.YtkjgmakaidfgaaaGreatDoorEvd
namespace Go.Proofs.YtkjgmakaidfgaaaGreatDoor
open Go.RowKit

section
variable {P : Program} {Ty : Tr TypeInfo}
def evField (Ty : Tr TypeInfo) (t : TypeId) (f : Nat) : RV → Option RV
  | .ptr b o => match undE Ty t with
    | some (.struct fs) => match fs.toList[f]? with
      | some g => match szE Ty g.type with
        | some (_ + 1) => some (.ptr b (o + g.offset))
        | _ => none
      | none => none
    | _ => none
  | _ => none
theorem evField_run (K : TyOk P Ty) {e : Nv} {t : TypeId} {f n : Nat} {x v : RV} (hl : RV.lt n x) (hv : evField Ty t f x = some v) (w : World) :
    (Instr.fieldAt t (RV.tr e x) f).run P w = .ok (RV.tr e v) w ∧ RV.lt n v := by
  unfold evField at hv
  split at hv
  · split at hv
    · rename_i b o fs hu
      split at hv
      · rename_i g hg
        split at hv
        · rename_i m hm
          injection hv with hv
          subst hv
          rw [Array.getElem?_toList] at hg
          refine ⟨?_, hl⟩
          simp only [Instr.fieldAt, Sem.run_bind, K.undRun hu, Result.andThen_ok, hg, RV.tr, Instr.sureAddr, Sem.run_pure, fieldPlace, K.size hm, Addr.add_mid]
          simp
        · cases hv
      · cases hv
    · cases hv
  · cases hv
/-- a slice's row: its block, its offset, its length -/
def rowOf : RV → Option (Nat × Nat × Nat)
  | .sl b o n _ => some (b, o, n)
  | .slu b o n _ => some (b, o, n)
  | _ => none
theorem rowOf_tr (e : Nv) {x : RV} {b o n : Nat} (h : rowOf x = some (b, o, n)) : ∃ c, RV.tr e x = .slice (some ⟨e.at_ b, o, none⟩) n c := by
  unfold rowOf at h
  split at h
  · cases h; exact ⟨_, rfl⟩
  · cases h; exact ⟨_, rfl⟩
  · cases h
theorem rowOf_lt {m : Nat} {x : RV} {b o n : Nat} (h : rowOf x = some (b, o, n)) (hl : RV.lt m x) : b < m := by
  unfold rowOf at h
  split at h
  · cases h; exact hl
  · cases h; exact hl
  · cases h
def evIndexA (Ty : Tr TypeInfo) (t : TypeId) (x i : RV) : Option RV :=
  match i, undE Ty t with
  | .lit (.int _ (.ofNat m)), some (.array len el) => match x, szE Ty el, Nat.ble (m + 1) len with
    | .ptr b o, some s, true => some (.ptr b (o + m * s))
    | _, _, _ => none
  | .lit (.int _ (.ofNat m)), some (.slice el) => match rowOf x, szE Ty el with
    | some (b, o, n), some s => match Nat.ble (m + 1) n with
      | true => some (.ptr b (o + m * s))
      | false => none
    | _, _ => none
  | _, _ => none
theorem evIndexA_run (K : TyOk P Ty) {e : Nv} {t : TypeId} {n : Nat} {x i v : RV} (hl : RV.lt n x) (hv : evIndexA Ty t x i = some v) (w : World) :
    (Instr.indexAt t (RV.tr e x) (RV.tr e i)).run P w = .ok (RV.tr e v) w ∧ RV.lt n v := by
  unfold evIndexA at hv
  split at hv
  · rename_i k m len el hu
    split at hv
    · rename_i b o s hs hm
      injection hv with hv
      subst hv
      have hm := Nat.le_of_ble_eq_true hm
      refine ⟨?_, hl⟩
      have h1 : (0 : Int) ≤ (m : Int) ∧ (m : Int) < (len : Int) := ⟨by omega, by omega⟩
      simp only [Instr.indexAt, RV.tr, asIntOf, Sem.run_bind, Sem.run_pure, Result.andThen_ok, K.undRun hu, Instr.sureAddr, h1, and_self, if_true, K.size hs, Addr.add_mid, Int.toNat_natCast, Int.ofNat_eq_natCast]
    · cases hv
  · rename_i k m el hu
    split at hv
    · rename_i b o len s hr hs
      split at hv
      · rename_i hm
        injection hv with hv
        subst hv
        have hm := Nat.le_of_ble_eq_true hm
        obtain ⟨c, hx⟩ := rowOf_tr e hr
        refine ⟨?_, rowOf_lt hr hl⟩
        have h1 : (0 : Int) ≤ (m : Int) ∧ (m : Int) < (len : Int) := ⟨by omega, by omega⟩
        rw [hx]
        simp only [Instr.indexAt, RV.tr, asIntOf, Sem.run_bind, Sem.run_pure, Result.andThen_ok, K.undRun hu, h1, and_self, if_true, K.size hs, Addr.add_mid, Int.toNat_natCast, Int.ofNat_eq_natCast]
      · cases hv
    · cases hv
  · cases hv
/-- a part of a struct or an array -/
def evPart (Ty : Tr TypeInfo) (t : TypeId) (cs : List Seg) (o : Nat) : Option RV :=
  match szE Ty t, aggE Ty t with
  | some n, some true => match Nat.beq (lenS (takeS (dropS cs o) n)) n with
    | true => some (.agg (takeS (dropS cs o) n))
    | false => none
  | some _, some false => oneOf (takeS (dropS cs o) 1)
  | _, _ => none
theorem evPart_run (K : TyOk P Ty) {e : Nv} {t : TypeId} {m o : Nat} {cs : List Seg} {v : RV} (hl : ltS m cs) (hv : evPart Ty t cs o = some v) (w : World) :
    (part t (trS e cs).toArray o).run P w = .ok (RV.tr e v) w ∧ RV.lt m v := by
  unfold evPart at hv
  split at hv
  · rename_i n hn ha
    split at hv
    · rename_i hlen
      injection hv with hv
      subst hv
      have hlen := Nat.eq_of_beq_eq_true hlen
      refine ⟨?_, takeS_lt _ (dropS_lt _ hl)⟩
      simp only [part, Sem.run_bind, K.agg ha, Result.andThen_ok, if_true, K.size hn, Sem.run_pure, RV.tr, takeS_tr, dropS_tr]
      congr 2
      apply Array.ext'
      simp [List.extract_toArray]
    · cases hv
  · rename_i n hn ha
    have h1 := oneOf_tr e hv
    refine ⟨?_, oneOf_lt hv (takeS_lt _ (dropS_lt _ hl))⟩
    rw [takeS_tr, dropS_tr] at h1
    have h2 : (trS e cs)[o]? = some (RV.tr e v) := by
      have := congrArg (fun l : List Value => l[0]?) h1
      simpa [List.getElem?_take, List.getElem?_drop] using this
    simp [part, Sem.run_bind, K.agg ha, h2]
  · cases hv
theorem evPart_run' (K : TyOk P Ty) {e : Nv} {t : TypeId} {o : Nat} {cs : List Seg} {v : RV} (hv : evPart Ty t cs o = some v) (w : World) :
    (part t (trS e cs).toArray o).run P w = .ok (RV.tr e v) w := by
  unfold evPart at hv
  split at hv
  · rename_i n hn ha
    split at hv
    · rename_i hlen
      injection hv with hv
      subst hv
      simp only [part, Sem.run_bind, K.agg ha, Result.andThen_ok, if_true, K.size hn, Sem.run_pure, RV.tr, takeS_tr, dropS_tr]
      congr 2
      apply Array.ext'
      simp [List.extract_toArray]
    · cases hv
  · rename_i n hn ha
    have h1 := oneOf_tr e hv
    rw [takeS_tr, dropS_tr] at h1
    have h2 : (trS e cs)[o]? = some (RV.tr e v) := by
      have := congrArg (fun l : List Value => l[0]?) h1
      simpa [List.getElem?_take, List.getElem?_drop] using this
    simp [part, Sem.run_bind, K.agg ha, h2]
  · cases hv
def evFieldV (Ty : Tr TypeInfo) (t : TypeId) (f : Nat) : RV → Option RV
  | .agg cs => match undE Ty t with
    | some (.struct fs) => match fs.toList[f]? with
      | some g => evPart Ty g.type cs g.offset
      | none => none
    | _ => none
  | _ => none
theorem evFieldV_run (K : TyOk P Ty) {e : Nv} {t : TypeId} {f n : Nat} {x v : RV} (hl : RV.lt n x) (hv : evFieldV Ty t f x = some v) (w : World) :
    (Instr.field t (RV.tr e x) f).run P w = .ok (RV.tr e v) w ∧ RV.lt n v := by
  unfold evFieldV at hv
  split at hv
  · split at hv
    · rename_i cs fs hu
      split at hv
      · rename_i g hg
        rw [Array.getElem?_toList] at hg
        obtain ⟨h1, h2⟩ := evPart_run K (e := e) hl hv w
        refine ⟨?_, h2⟩
        simp only [Instr.field, Sem.run_bind, K.undRun hu, Result.andThen_ok, hg, RV.tr, asAgg, Sem.run_pure]
        exact h1
      · cases hv
    · cases hv
  · cases hv
def evIndexV (Ty : Tr TypeInfo) (t : TypeId) (x i : RV) : Option RV :=
  match i, undE Ty t, x with
  | .lit (.int _ (.ofNat m)), some (.array len el), .agg cs => match szE Ty el, Nat.ble (m + 1) len with
    | some s, true => evPart Ty el cs (m * s)
    | _, _ => none
  | .lit (.int _ (.ofNat m)), some .string, .lit (.string s) => match s.data.toList[m]? with
    | some c => some (.lit (.int .u8 c.toNat))
    | none => none
  | _, _, _ => none
theorem evIndexV_run (K : TyOk P Ty) {e : Nv} {t : TypeId} {n : Nat} {x i v : RV} (hl : RV.lt n x) (hv : evIndexV Ty t x i = some v) (w : World) :
    (Instr.index t (RV.tr e x) (RV.tr e i)).run P w = .ok (RV.tr e v) w ∧ RV.lt n v := by
  unfold evIndexV at hv
  split at hv
  · rename_i k m len el cs hu
    split at hv
    · rename_i s hs hm
      have hm := Nat.le_of_ble_eq_true hm
      obtain ⟨h1, h2⟩ := evPart_run K (e := e) hl hv w
      refine ⟨?_, h2⟩
      have h3 : (0 : Int) ≤ (m : Int) ∧ (m : Int) < (len : Int) := ⟨by omega, by omega⟩
      simp only [Instr.index, RV.tr, asIntOf, Sem.run_bind, Sem.run_pure, Result.andThen_ok, K.undRun hu, h3, and_self, if_true, K.size hs, Int.toNat_natCast, Int.ofNat_eq_natCast]
      exact h1
    · cases hv
  · rename_i k m s hu
    split at hv
    · rename_i c hc
      injection hv with hv
      subst hv
      refine ⟨?_, trivial⟩
      have h3 : (0 : Int) ≤ (m : Int) := by omega
      have h4 : s[m]? = some c := by
        obtain ⟨hm, hcc⟩ := List.getElem?_eq_some_iff.1 hc
        rw [getElem?_pos s m (by simpa using hm)]
        rw [← hcc]; rfl
      simp only [Instr.index, RV.tr, asIntOf, Sem.run_bind, Sem.run_pure, Result.andThen_ok, K.undRun hu, h3, if_true, Int.toNat_natCast, Int.ofNat_eq_natCast, h4]
    · cases hv
  · cases hv
def evExtract (k : Nat) : RV → Option RV
  | .tup vs => vs[k]?
  | _ => none
theorem evExtract_run {e : Nv} {k n : Nat} {x v : RV} (hl : RV.lt n x) (hv : evExtract k x = some v) (w : World) :
    (Instr.extract (RV.tr e x) k).run P w = .ok (RV.tr e v) w ∧ RV.lt n v := by
  unfold evExtract at hv
  split at hv
  · rename_i vs
    refine ⟨?_, ltL_mem.1 hl v (List.mem_of_getElem? hv)⟩
    have : (trL e vs).toArray[k]? = some (RV.tr e v) := by
      rw [List.getElem?_toArray, trL_map, List.getElem?_map, hv]; rfl
    simp only [RV.tr, Instr.extract, this, Sem.run_pure]
  · cases hv
end
end Go.Proofs.YtkjgmakaidfgaaaGreatDoor
