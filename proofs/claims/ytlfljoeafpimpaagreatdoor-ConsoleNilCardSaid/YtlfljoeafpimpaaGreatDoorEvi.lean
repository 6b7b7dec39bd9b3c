/- The evaluator: full tries; frames and what they stand for; operands. The evaluator: single operations (no call). -/
import Derived.Test.YtlfljoeafpimpaaGreatDoorEvg
namespace Go.Proofs.YtlfljoeafpimpaaGreatDoor
open Go.RowKit

def trD (e : Nv) : Dfr → Deferred
  | .mark b => { target := .collected (e.at_ b), args := #[] }
  | .call g xs cs => { target := .fn (.func g) (trL e cs).toArray, args := (trL e xs).toArray }
def Dfr.lt (n : Nat) : Dfr → Prop
  | .mark b => b < n
  | .call _ xs cs => ltL n xs ∧ ltL n cs
theorem trD_ext {n : Nat} {e f : Nv} (h : Nv.ext n e f) : ∀ d : Dfr, Dfr.lt n d → trD f d = trD e d
  | .mark b, hl => by simp only [trD, (h b hl).1]
  | .call _ xs cs, hl => by simp only [trD, trL_ext h xs hl.1, trL_ext h cs hl.2]
theorem Dfr.lt_mono {n m : Nat} (h : n ≤ m) : ∀ d : Dfr, Dfr.lt n d → Dfr.lt m d
  | .mark _, hl => Nat.lt_of_lt_of_le hl h
  | .call _ xs cs, hl => ⟨ltL_mono h xs hl.1, ltL_mono h cs hl.2⟩
/-- a frame stands for the temporaries -/
structure RepF (e : Nv) (nx : Nat) (F : Fr) (a : Act) : Prop where
  size : a.tmps.size = F.nt
  fullT : ∃ d, full d F.T ∧ F.nt ≤ 2 ^ d
  tmp : ∀ i v, i < F.nt → getR F.T i = some v → a.tmps[i]? = some (RV.tr e v) ∧ RV.lt nx v
  defers : a.defers = F.D.map (trD e)
  dlt : ∀ d ∈ F.D, Dfr.lt nx d
  rlt : ∀ b, F.ro = some b → b < nx
theorem eqLit_eq {u v : Value} (h : eqLit u v = true) : u = v := by
  unfold eqLit at h
  split at h <;> try simp only [Bool.and_eq_true, decide_eq_true_eq, beq_iff_eq] at h
  · rw [h.1, h.2]
  · rw [h]
  · rename_i a b
    congr 1
    cases a; cases b
    congr 1
    exact Array.ext' h
  · rfl
  · rw [Nat.eq_of_beq_eq_true h.1, Nat.eq_of_beq_eq_true h.2]
  · rfl
  · rfl
  · rfl
  · rw [Array.eq_empty_of_size_eq_zero (Nat.eq_of_beq_eq_true h.1), Array.eq_empty_of_size_eq_zero (Nat.eq_of_beq_eq_true h.2)]
  · cases h
theorem eqFn_eq {u v : Fn} (h : eqFn u v = true) : u = v := by
  unfold eqFn at h
  split at h
  · rw [Nat.eq_of_beq_eq_true h]
  · rw [of_decide_eq_true h]
  · cases h
mutual
theorem eqRV_eq : ∀ {u v : RV}, eqRV u v = true → u = v
  | .lit u, v, h => by
    cases v <;> simp only [eqRV] at h <;> try cases h
    rw [eqLit_eq h]
  | .ptr b o, v, h => by
    cases v <;> simp only [eqRV, Bool.and_eq_true] at h <;> try cases h
    rename_i h1 h2
    rw [Nat.eq_of_beq_eq_true h1, Nat.eq_of_beq_eq_true h2]
  | .sl b o n c, v, h => by
    cases v <;> simp only [eqRV, Bool.and_eq_true] at h <;> try cases h
    rename_i h1 h2
    rw [Nat.eq_of_beq_eq_true h1, Nat.eq_of_beq_eq_true h2.1, Nat.eq_of_beq_eq_true h2.2.1, Nat.eq_of_beq_eq_true h2.2.2]
  | .slu b o n c, v, h => by
    cases v <;> simp only [eqRV, Bool.and_eq_true] at h <;> try cases h
    rename_i h1 h2
    rw [Nat.eq_of_beq_eq_true h1, Nat.eq_of_beq_eq_true h2.1, Nat.eq_of_beq_eq_true h2.2.1, Nat.eq_of_beq_eq_true h2.2.2]
  | .sle b o n c, v, h => by
    cases v <;> simp only [eqRV, Bool.and_eq_true] at h <;> try cases h
    rename_i h1 h2
    rw [Nat.eq_of_beq_eq_true h1, Nat.eq_of_beq_eq_true h2.1, Nat.eq_of_beq_eq_true h2.2.1, Nat.eq_of_beq_eq_true h2.2.2]
  | .yld b, v, h => by
    cases v <;> simp only [eqRV] at h <;> try cases h
    rw [Nat.eq_of_beq_eq_true h]
  | .mp b, v, h => by
    cases v <;> simp only [eqRV] at h <;> try cases h
    rw [Nat.eq_of_beq_eq_true h]
  | .fn _ a b, v, h => by
    cases v <;> simp only [eqRV, Bool.and_eq_true] at h <;> try cases h
    rename_i h1 h2
    rw [eqFn_eq h1, eqRL_eq h2.1, eqRL_eq h2.2]
  | .ifc t x, v, h => by
    cases v <;> simp only [eqRV, Bool.and_eq_true] at h <;> try cases h
    rename_i h1 h2
    rw [Nat.eq_of_beq_eq_true h1, eqRV_eq h2]
  | .agg cs, v, h => by
    cases v <;> simp only [eqRV] at h <;> try cases h
    rw [eqSS_eq h]
  | .tup vs, v, h => by
    cases v <;> simp only [eqRV] at h <;> try cases h
    rw [eqRL_eq h]
  | .rst c k, v, h => by
    cases v <;> simp only [eqRV, Bool.and_eq_true] at h <;> try cases h
    rename_i h1 h2
    rw [of_decide_eq_true h1, Nat.eq_of_beq_eq_true h2]
theorem eqRL_eq : ∀ {u v : List RV}, eqRL u v = true → u = v
  | [], v, h => by
    cases v
    · rfl
    · simp only [eqRL] at h; cases h
  | x :: u, v, h => by
    cases v <;> simp only [eqRL, Bool.and_eq_true] at h <;> try cases h
    rename_i h1 h2
    rw [eqRV_eq h1, eqRL_eq h2]
theorem eqSeg_eq : ∀ {u v : Seg}, eqSeg u v = true → u = v
  | .one x, v, h => by
    cases v <;> simp only [eqSeg] at h <;> try cases h
    rw [eqRV_eq h]
  | .byt n k, v, h => by
    cases v <;> simp only [eqSeg, Bool.and_eq_true] at h <;> try cases h
    rename_i h1 h2
    rw [Nat.eq_of_beq_eq_true h1, Nat.eq_of_beq_eq_true h2]
  | .rep x k, v, h => by
    cases v <;> simp only [eqSeg, Bool.and_eq_true] at h <;> try cases h
    rename_i h1 h2
    rw [eqRV_eq h1, Nat.eq_of_beq_eq_true h2]
theorem eqSS_eq : ∀ {u v : List Seg}, eqSS u v = true → u = v
  | [], v, h => by
    cases v
    · rfl
    · simp only [eqSS] at h; cases h
  | x :: u, v, h => by
    cases v <;> simp only [eqSS, Bool.and_eq_true] at h <;> try cases h
    rename_i h1 h2
    rw [eqSeg_eq h1, eqSS_eq h2]
end
section
variable {e f : Nv} {nx my : Nat} {F : Fr} {a : Act}
theorem RepF.ext (r : RepF e nx F a) (hx : Nv.ext nx e f) (hn : nx ≤ my) : RepF f my F a :=
  ⟨r.size, r.fullT, fun i v hi hv => by
    obtain ⟨h1, h2⟩ := r.tmp i v hi hv
    exact ⟨by rw [RV.tr_ext hx v h2]; exact h1, RV.lt_mono hn v h2⟩, by rw [r.defers]; exact (List.map_congr_left fun d hd => trD_ext hx d (r.dlt d hd)).symm, fun d hd => Dfr.lt_mono hn d (r.dlt d hd), fun b hb => Nat.lt_of_lt_of_le (r.rlt b hb) hn⟩
/-- an operand -/
theorem opd_run (r : RepF e nx F a) {x : Operand} {v : RV} (h : opd F x = some v) : a.eval x = RV.tr e v ∧ RV.lt nx v := by
  cases x with
  | tmp t =>
    simp only [opd] at h
    split at h
    · rename_i hb
      have hb : t + 1 ≤ F.nt := Nat.le_of_ble_eq_true hb
      obtain ⟨h1, h2⟩ := r.tmp t v hb h
      refine ⟨?_, h2⟩
      simp only [Act.eval, Array.getD_eq_getD_getElem?, h1, Option.getD_some]
    · cases h
  | const u =>
    simp only [opd] at h
    split at h
    · injection h with h; subst h
      refine ⟨?_, pack_lt _⟩
      simp only [Act.eval, RV.tr, pack_tr, Array.toArray_toList]
    · injection h with h; subst h
      exact ⟨rfl, trivial⟩
  | global g =>
    simp only [opd, Option.some.injEq] at h; subst h
    exact ⟨rfl, trivial⟩
  | func g =>
    simp only [opd, Option.some.injEq] at h; subst h
    exact ⟨rfl, trivial, trivial⟩
/-- the frame behind a value -/
noncomputable def Fr.put (F : Fr) (d : Option Tmp) (v : RV) : Fr := match d with
  | some d => ⟨F.nt, putR F.T d (.leaf v), F.D, F.ro⟩
  | none => F
theorem putK_some {ih : OpsE} {d : Option Tmp} {v : RV} {h : Hp} {z : Fr × Hp} (hz : putK ih F d v h = some z) : (∀ t, d = some t → t < F.nt) ∧ ih (F.put d v) h = some z := by
  cases d with
  | none => exact ⟨(fun t ht => nomatch ht), hz⟩
  | some d =>
    replace hz : forceV v (fun v => Bool.rec (motive := fun _ => Option (Fr × Hp)) none (setR F.T d (.leaf v) fun T => ih ⟨F.nt, T, F.D, F.ro⟩ h) (Nat.ble (Nat.succ d) F.nt)) = some z := hz
    rw [forceV_eq] at hz
    cases hb : Nat.ble (Nat.succ d) F.nt with
    | false => rw [hb] at hz; cases hz
    | true =>
      rw [hb] at hz
      replace hz : setR F.T d (.leaf v) (fun T => ih ⟨F.nt, T, F.D, F.ro⟩ h) = some z := hz
      rw [setR_eq] at hz
      exact ⟨fun t ht => by injection ht with ht; subst ht; exact Nat.le_of_ble_eq_true hb, hz⟩
theorem Fr.put_ro (F : Fr) (d : Option Tmp) (v : RV) : (F.put d v).ro = F.ro := by cases d <;> rfl
theorem RepF.put (r : RepF e nx F a) {d : Option Tmp} {v : RV} (hd : ∀ t, d = some t → t < F.nt) (hv : RV.lt nx v) : RepF e nx (F.put d v) (a.put d (RV.tr e v)) := by
  cases d with
  | none => exact r
  | some t =>
    have ht := hd t rfl
    obtain ⟨d, hf, hn⟩ := r.fullT
    refine ⟨?_, ⟨d, full_put d F.T t v hf, hn⟩, fun i u hi hu => ?_, r.defers, r.dlt, r.rlt⟩
    · show (a.tmps.setIfInBounds t (RV.tr e v)).size = F.nt
      rw [Array.size_setIfInBounds]; exact r.size
    · replace hi : i < F.nt := hi
      replace hu : getR (putR F.T t (.leaf v)) i = some u := hu
      show (a.tmps.setIfInBounds t (RV.tr e v))[i]? = _ ∧ _
      by_cases hti : t = i
      · subst hti
        rw [getR_put_same d F.T t v hf] at hu
        injection hu with hu; subst hu
        refine ⟨?_, hv⟩
        rw [Array.getElem?_setIfInBounds_self_of_lt (by rw [r.size]; exact ht)]
      · rw [getR_put_other d F.T t i v hf (Nat.lt_of_lt_of_le ht hn) (Nat.lt_of_lt_of_le hi hn) hti] at hu
        obtain ⟨h1, h2⟩ := r.tmp i u hi hu
        exact ⟨by rw [Array.getElem?_setIfInBounds_ne hti]; exact h1, h2⟩
end
end Go.Proofs.YtlfljoeafpimpaaGreatDoor
namespace Go.Proofs.YtlfljoeafpimpaaGreatDoor
open Go.RowKit

section
variable {P : Program} {Ty : Tr TypeInfo} {B : Nat → Prop} {w0 w : World} {e : Nv} {h h' : Hp} {F : Fr} {a : Act} {o : Oper} {v : RV}
theorem some_map {α β : Type} {x : Option α} {f : α → β} {z : β} (hz : x.map f = some z) : ∃ y, x = some y ∧ f y = z := by
  cases x with
  | none => cases hz
  | some y => exact ⟨y, rfl, Option.some.inj hz⟩
theorem with_some {x : Option RV} (hz : with_ h x = some (v, h')) : x = some v ∧ h' = h := by
  obtain ⟨y, hy, hh⟩ := some_map hz
  injection hh with h1 h2
  exact ⟨by rw [hy, h1], h2.symm⟩
theorem done_some {x : Option Hp} (hz : done_ x = some (v, h')) : x = some h' ∧ v = .lit undef := by
  obtain ⟨y, hy, hh⟩ := some_map hz
  injection hh with h1 h2
  exact ⟨by rw [hy, h2], h1.symm⟩
theorem run_value {s : Sem Value} {u : Value} {w' : World} (hs : s.run P w = .ok u w') : (do pure (Next.value (← s)) : Sem Next).run P w = .ok (.value u) w' := by
  simp only [Sem.run_bind, hs, Result.andThen_ok, Sem.run_pure]
theorem run_skip {s : Sem Unit} {w' : World} (hs : s.run P w = .ok () w') : (do s; pure Next.skip : Sem Next).run P w = .ok .skip w' := by
  simp only [Sem.run_bind, hs, Result.andThen_ok, Sem.run_pure]

theorem opMove_run (f : RepF e h.nx F a) {x : Operand} (hv : opMove F h x = some (v, h')) (ho : o.op = .move x ∨ o.op = .assign x) : QR P e h a o w v ∧ h' = h := by
  obtain ⟨y, hy, hh⟩ := some_map hv
  injection hh with h1 h2; subst h1 h2
  obtain ⟨he, hl⟩ := opd_run f hy
  refine ⟨⟨?_, hl⟩, rfl⟩
  rcases ho with ho | ho <;> (unfold execOp; rw [ho]; simp only [Sem.run_pure, he])
theorem opPick_run (f : RepF e h.nx F a) {c x y : Operand} (hv : opPick F h c x y = some (v, h')) (ho : o.op = .pick c x y) : QR P e h a o w v ∧ h' = h := by
  unfold opPick at hv
  split at hv
  · rename_i hc
    obtain ⟨z, hz, hh⟩ := some_map hv
    injection hh with h1 h2; subst h1 h2
    obtain ⟨he, hl⟩ := opd_run f hz
    refine ⟨⟨?_, hl⟩, rfl⟩
    unfold execOp; rw [ho]
    simp only [(opd_run f hc).1, RV.tr, asBool, Sem.run_bind, Sem.run_pure, Result.andThen_ok, if_true, he]
  · rename_i hc
    obtain ⟨z, hz, hh⟩ := some_map hv
    injection hh with h1 h2; subst h1 h2
    obtain ⟨he, hl⟩ := opd_run f hz
    refine ⟨⟨?_, hl⟩, rfl⟩
    unfold execOp; rw [ho]
    simp only [(opd_run f hc).1, RV.tr, asBool, Sem.run_bind, Sem.run_pure, Result.andThen_ok, Bool.false_eq_true, if_false, he]
  · cases hv
theorem opAlloc_run (K : TyOk P Ty) (r : RepH B w0 e h w) {t : TypeId} (hv : evAlloc Ty h t = some (v, h')) (ho : o.op = .alloc t) : OpR P B w0 e h a o w v h' := by
  obtain ⟨e', w', hr, hx, r', hn, hl⟩ := evAlloc_run K r hv
  refine ⟨e', w', .inl ?_, hx, r', hn, hl⟩
  unfold execOp; rw [ho]
  exact run_value hr
theorem opBox_run (r : RepH B w0 e h w) (f : RepF e h.nx F a) {t : TypeId} {x : Operand} (hv : opBox F h t x = some (v, h')) (ho : o.op = .box t x) : OpR P B w0 e h a o w v h' := by
  unfold opBox at hv
  split at hv
  · rename_i y hy
    obtain ⟨he, hl⟩ := opd_run f hy
    obtain ⟨e', w', hr, hx, r', hn, hl'⟩ := evBox_run (P := P) r hl hv
    refine ⟨e', w', .inl ?_, hx, r', hn, hl'⟩
    unfold execOp; rw [ho]
    simp only [he]
    exact run_value hr
  · cases hv
theorem opLoad_run (K : TyOk P Ty) (r : RepH B w0 e h w) (f : RepF e h.nx F a) {t : TypeId} {x : Operand} (hv : opLoad Ty F h t x = some (v, h')) (ho : o.op = .load t x) : QR P e h a o w v ∧ h' = h := by
  unfold opLoad at hv
  split at hv
  · rename_i y hy
    obtain ⟨h2, rfl⟩ := with_some hv
    obtain ⟨hr, hl⟩ := evLoad_run K r h2
    refine ⟨⟨?_, hl⟩, rfl⟩
    unfold execOp; rw [ho]
    simp only [(opd_run f hy).1]
    exact run_value hr
  · cases hv
theorem opStore_run (K : TyOk P Ty) (r : RepH B w0 e h w) (f : RepF e h.nx F a) {t : TypeId} {x y : Operand} (hv : opStore Ty F h t x y = some (v, h')) (ho : o.op = .store t x y) : OpR P B w0 e h a o w v h' := by
  unfold opStore at hv
  split at hv
  · rename_i p hp
    split at hv
    · rename_i u hu
      obtain ⟨h2, rfl⟩ := done_some hv
      obtain ⟨he, hl⟩ := opd_run f hu
      obtain ⟨w', hr, r', hn⟩ := evStore_run K r hl h2
      refine ⟨e, w', .inr ⟨?_, rfl⟩, Nv.ext.refl _ _, r', Nat.le_of_eq hn.symm, trivial⟩
      unfold execOp; rw [ho]
      simp only [(opd_run f hp).1, he]
      exact run_skip hr
    · cases hv
  · cases hv
theorem opFA_run (K : TyOk P Ty) (f : RepF e h.nx F a) {t : TypeId} {x : Operand} {k : Nat} (hv : opFA Ty F h t x k = some (v, h')) (ho : o.op = .fieldAddr t x k) : QR P e h a o w v ∧ h' = h := by
  unfold opFA at hv
  split at hv
  · rename_i p hp
    obtain ⟨h2, rfl⟩ := with_some hv
    obtain ⟨he, hl⟩ := opd_run f hp
    obtain ⟨hr, hl'⟩ := evField_run K hl h2 w
    refine ⟨⟨?_, hl'⟩, rfl⟩
    unfold execOp; rw [ho]
    simp only [he]
    exact run_value hr
  · cases hv
theorem opFV_run (K : TyOk P Ty) (f : RepF e h.nx F a) {t : TypeId} {x : Operand} {k : Nat} (hv : opFV Ty F h t x k = some (v, h')) (ho : o.op = .field t x k) : QR P e h a o w v ∧ h' = h := by
  unfold opFV at hv
  split at hv
  · rename_i p hp
    obtain ⟨h2, rfl⟩ := with_some hv
    obtain ⟨he, hl⟩ := opd_run f hp
    obtain ⟨hr, hl'⟩ := evFieldV_run K hl h2 w
    refine ⟨⟨?_, hl'⟩, rfl⟩
    unfold execOp; rw [ho]
    simp only [he]
    exact run_value hr
  · cases hv
theorem opIA_run (K : TyOk P Ty) (f : RepF e h.nx F a) {t : TypeId} {x i : Operand} (hv : opIA Ty F h t x i = some (v, h')) (ho : o.op = .indexAddr t x i) : QR P e h a o w v ∧ h' = h := by
  unfold opIA at hv
  split at hv
  · rename_i p hp
    split at hv
    · rename_i q hq
      obtain ⟨h2, rfl⟩ := with_some hv
      obtain ⟨he, hl⟩ := opd_run f hp
      obtain ⟨hr, hl'⟩ := evIndexA_run K hl h2 w
      refine ⟨⟨?_, hl'⟩, rfl⟩
      unfold execOp; rw [ho]
      simp only [he, (opd_run f hq).1]
      exact run_value hr
    · cases hv
  · cases hv
theorem opIV_run (K : TyOk P Ty) (f : RepF e h.nx F a) {t : TypeId} {x i : Operand} (hv : opIV Ty F h t x i = some (v, h')) (ho : o.op = .index t x i) : QR P e h a o w v ∧ h' = h := by
  unfold opIV at hv
  split at hv
  · rename_i p hp
    split at hv
    · rename_i q hq
      obtain ⟨h2, rfl⟩ := with_some hv
      obtain ⟨he, hl⟩ := opd_run f hp
      obtain ⟨hr, hl'⟩ := evIndexV_run K hl h2 w
      refine ⟨⟨?_, hl'⟩, rfl⟩
      unfold execOp; rw [ho]
      simp only [he, (opd_run f hq).1]
      exact run_value hr
    · cases hv
  · cases hv
theorem opExt_run (f : RepF e h.nx F a) {x : Operand} {k : Nat} (hv : opExt F h x k = some (v, h')) (ho : o.op = .extract x k) : QR P e h a o w v ∧ h' = h := by
  unfold opExt at hv
  split at hv
  · rename_i p hp
    obtain ⟨h2, rfl⟩ := with_some hv
    obtain ⟨he, hl⟩ := opd_run f hp
    obtain ⟨hr, hl'⟩ := evExtract_run (P := P) hl h2 w
    refine ⟨⟨?_, hl'⟩, rfl⟩
    unfold execOp; rw [ho]
    simp only [he]
    exact run_value hr
  · cases hv
end
end Go.Proofs.YtlfljoeafpimpaaGreatDoor
