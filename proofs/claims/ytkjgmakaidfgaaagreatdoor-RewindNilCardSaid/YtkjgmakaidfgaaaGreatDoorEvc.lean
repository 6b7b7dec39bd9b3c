/- The evaluator: what the operations do to values and to the heap; each is what the model does. -/
import Derived.Test.YtkjgmakaidfgaaaGreatDoorEvb
namespace Go.Proofs.YtkjgmakaidfgaaaGreatDoor
open Go.RowKit

/-! ### types -/
structure TyOk (P : Program) (Ty : Tr TypeInfo) : Prop where
  info : ∀ t i, Tr.get 10 Ty t = some i → P.info? t = some i
def undE (Ty : Tr TypeInfo) (t : TypeId) : Option TypeDesc :=
  match Tr.get 10 Ty t with
  | some i => match i.desc with
    | .named _ u => (Tr.get 10 Ty u).map (·.desc)
    | d => some d
  | none => none
def szE (Ty : Tr TypeInfo) (t : TypeId) : Option Nat := (Tr.get 10 Ty t).map (·.size)
section
variable {P : Program} {Ty : Tr TypeInfo}
theorem TyOk.und (K : TyOk P Ty) {t : TypeId} {d : TypeDesc} (h : undE Ty t = some d) : P.underlying t = some d := by
  unfold undE at h
  cases hi : Tr.get 10 Ty t with
  | none => rw [hi] at h; cases h
  | some i =>
    rw [hi] at h
    have h1 := K.info t i hi
    unfold Program.underlying
    rw [h1]
    obtain ⟨desc, a1, a2, a3, a4, a5, a6, a7, a8, a9⟩ := i
    cases desc
    case named nm u =>
      simp only at h ⊢
      cases hu : Tr.get 10 Ty u with
      | none => rw [hu] at h; cases h
      | some j =>
        rw [hu] at h
        rw [K.info u j hu]
        exact h
    all_goals
      simp only at h ⊢
      exact h
theorem TyOk.sz (K : TyOk P Ty) {t : TypeId} {n : Nat} (h : szE Ty t = some n) : ∃ i, P.info? t = some i ∧ i.size = n := by
  unfold szE at h
  cases hi : Tr.get 10 Ty t with
  | none => rw [hi] at h; cases h
  | some i => rw [hi] at h; exact ⟨i, K.info t i hi, by simpa using h⟩
theorem TyOk.size (K : TyOk P Ty) {t : TypeId} {n : Nat} (h : szE Ty t = some n) (w : World) : (sizeOf t).run P w = .ok n w := by
  obtain ⟨i, h1, h2⟩ := K.sz h
  simp [sizeOf, typeInfo, h1, h2]
theorem TyOk.undRun (K : TyOk P Ty) {t : TypeId} {d : TypeDesc} (h : undE Ty t = some d) (w : World) : (underlying t).run P w = .ok d w := run_underlying (K.und h) w
def aggE (Ty : Tr TypeInfo) (t : TypeId) : Option Bool := (undE Ty t).map fun d => match d with
  | .struct _ => true
  | .array _ _ => true
  | _ => false
theorem TyOk.agg (K : TyOk P Ty) {t : TypeId} {b : Bool} (h : aggE Ty t = some b) (w : World) : (isAgg t).run P w = .ok b w := by
  unfold aggE at h
  cases hu : undE Ty t with
  | none => rw [hu] at h; cases h
  | some d =>
    rw [hu] at h
    unfold isAgg
    rw [Sem.run_bind, K.undRun hu w]
    simp only [Option.map_some, Option.some.injEq] at h
    subst h
    cases d <;> simp

/-! ### what an operation comes to -/
/-- the operation yields a value (or nothing), and leaves a world that the next heap stands for -/
def OpR (P : Program) (B : Nat → Prop) (w0 : World) (e : Nv) (h : Hp) (a : Act) (o : Oper) (w : World) (v : RV) (h' : Hp) : Prop :=
  ∃ e' w', ((execOp a.eval o).run P w = .ok (.value (RV.tr e' v)) w' ∨ ((execOp a.eval o).run P w = .ok .skip w' ∧ v = .lit undef)) ∧ Nv.ext h.nx e e' ∧ RepH B w0 e' h' w' ∧ h.nx ≤ h'.nx ∧ RV.lt h'.nx v
theorem OpR.same {B : Nat → Prop} {w0 w : World} {e : Nv} {h : Hp} {a : Act} {o : Oper} {v : RV} (r : RepH B w0 e h w) (hr : (execOp a.eval o).run P w = .ok (.value (RV.tr e v)) w) (hl : RV.lt h.nx v) : OpR P B w0 e h a o w v h :=
  ⟨e, w, .inl hr, Nv.ext.refl _ _, r, Nat.le_refl _, hl⟩

/-- the operation yields a value and does nothing else -/
def QR (P : Program) (e : Nv) (h : Hp) (a : Act) (o : Oper) (w : World) (v : RV) : Prop := (execOp a.eval o).run P w = .ok (.value (RV.tr e v)) w ∧ RV.lt h.nx v
theorem QR.opR {B : Nat → Prop} {w0 w : World} {e : Nv} {h h' : Hp} {a : Act} {o : Oper} {v : RV} (r : RepH B w0 e h w) (q : QR P e h a o w v ∧ h' = h) : OpR P B w0 e h a o w v h' := by
  obtain ⟨⟨h1, h2⟩, rfl⟩ := q
  exact .same r h1 h2
/-! ### cells of values -/
def RV.segs : RV → List Seg
  | .agg cs => cs
  | v => [.one v]
theorem RV.cells_tr (e : Nv) (v : RV) (hv : ∀ u, v = .lit u → u.cells = #[u]) : (RV.tr e v).cells.toList = trS e v.segs := by
  cases v <;> simp [RV.tr, RV.segs, Value.cells, trS, Seg.tr]
  rename_i u
  have := hv u rfl
  unfold Value.cells at this
  rw [this]
/-- one cell's value -/
def oneOf : List Seg → Option RV
  | [.one v] => some v
  | [.byt n 1] => some (.lit (.int .u8 ((n % 256 : Nat) : Int)))
  | [.rep v 1] => some v
  | _ => none
theorem oneOf_tr (e : Nv) {l : List Seg} {v : RV} (h : oneOf l = some v) : trS e l = [RV.tr e v] := by
  unfold oneOf at h
  split at h
  · cases h; rfl
  · cases h; simp [trS, Seg.tr, bytV, byV, RV.tr, List.range_succ]
  · cases h; rfl
  · cases h
theorem oneOf_lt {n : Nat} {l : List Seg} {v : RV} (h : oneOf l = some v) (hl : ltS n l) : RV.lt n v := by
  unfold oneOf at h
  split at h
  · cases h; exact hl.1
  · cases h; trivial
  · cases h; exact hl.1
  · cases h
theorem takeS_lt {n : Nat} : ∀ {l : List Seg} (o : Nat), ltS n l → ltS n (takeS l o)
  | _, 0, _ => by unfold takeS; exact trivial
  | [], _ + 1, _ => trivial
  | s :: r, o + 1, h => by
    unfold takeS
    split
    · exact ⟨h.1, takeS_lt _ h.2⟩
    · refine ⟨?_, trivial⟩
      cases s <;> exact h.1
theorem dropS_lt {n : Nat} : ∀ {l : List Seg} (o : Nat), ltS n l → ltS n (dropS l o)
  | [], 0, h => h
  | [], _ + 1, _ => trivial
  | s :: r, 0, h => h
  | s :: r, o + 1, h => by
    unfold dropS
    split
    · exact dropS_lt _ h.2
    · refine ⟨?_, h.2⟩
      cases s <;> exact h.1

/-! ### load -/
def evLoad (Ty : Tr TypeInfo) (h : Hp) (t : TypeId) : RV → Option RV
  | .ptr b o => match h.at? b with
    | none => none
    | some x => match x.segs with
      | none => none
      | some (cs, _) => match szE Ty t, aggE Ty t with
        | some n, some true => match Nat.beq (lenS (takeS (dropS cs o) n)) n with
          | true => some (.agg (takeS (dropS cs o) n))
          | false => none
        | some _, some false => oneOf (takeS (dropS cs o) 1)
        | _, _ => none
  | _ => none
theorem evLoad_run (K : TyOk P Ty) {B : Nat → Prop} {w0 w : World} {e : Nv} {h : Hp} (r : RepH B w0 e h w) {t : TypeId} {x v : RV} (hv : evLoad Ty h t x = some v) :
    (Instr.loadAt t (RV.tr e x)).run P w = .ok (RV.tr e v) w ∧ RV.lt h.nx v := by
  unfold evLoad at hv
  split at hv
  · rename_i b o
    cases hb : h.at? b with
    | none => rw [hb] at hv; cases hv
    | some y =>
      rw [hb] at hv
      simp only at hv
      cases hs : y.segs with
      | none => rw [hs] at hv; cases hv
      | some cst =>
        obtain ⟨cs, ct⟩ := cst
        rw [hs] at hv
        simp only at hv
        have hl := r.scoped hb hs
        split at hv
        · rename_i n hn ha
          split at hv
          · rename_i hlen
            injection hv with hv
            subst hv
            have hlen := Nat.eq_of_beq_eq_true hlen
            have hr := r.read hb hs o n
            obtain ⟨i, hi1, hi2⟩ := K.sz hn
            refine ⟨?_, takeS_lt _ (dropS_lt _ hl)⟩
            have hc := run_loadCells_list (P := P) (w := w) ⟨e.at_ b, o, none⟩ (trS e (takeS (dropS cs o) n)) (fun j v hv => by rw [Addr.add_mid]; exact hr j v hv)
            rw [trS_len, hlen] at hc
            simp only [RV.tr, Instr.loadAt, Instr.sureAddr, Sem.run_bind, Sem.run_pure, Result.andThen_ok, loadVar, K.agg ha, K.size hn, hc, if_true]
          · cases hv
        · rename_i n hn ha
          have hr := r.read hb hs o 1
          have h1 := oneOf_tr e hv
          refine ⟨?_, oneOf_lt hv (takeS_lt _ (dropS_lt _ hl))⟩
          rw [h1] at hr
          have hc := hr 0 _ rfl
          simp only [Nat.add_zero] at hc
          simp only [RV.tr, Instr.loadAt, Instr.sureAddr, Sem.run_bind, Sem.run_pure, Result.andThen_ok, loadVar, K.agg ha]
          simp [load, Sem.run, hc]
        · cases hv
  · cases hv
end
end Go.Proofs.YtkjgmakaidfgaaaGreatDoor
