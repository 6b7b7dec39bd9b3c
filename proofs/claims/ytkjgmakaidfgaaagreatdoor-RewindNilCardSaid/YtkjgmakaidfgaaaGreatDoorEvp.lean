/- The evaluator: a plain region. -/
import Derived.Test.YtkjgmakaidfgaaaGreatDoorEvo
import Derived.TacticsIn
namespace Go.Proofs.YtkjgmakaidfgaaaGreatDoor
open Go.RowKit

section
variable {P : Program} {Ty : Tr TypeInfo} {B : Nat → Prop} {w0 w : World} {e : Nv} {h h' : Hp} {F : Fr} {a : Act} {o : Oper} {v : RV}
theorem wantE_run (f : RepF e h.nx F a) {ops : List Oper} {b : Bool} (hv : wantE ops F o = some b) : Region.wanted o (yielded ops.toArray a.tmps) = b := by
  unfold wantE at hv
  unfold Region.wanted
  split at hv
  · rename_i hg
    injection hv with hv; subst hv
    rw [hg]
  · rename_i j want hg
    rw [hg]
    split at hv
    · rename_i g hj
      split at hv
      · rename_i d hd
        have hy : ∀ x, opd F (.tmp d) = some x → a.tmps[d]? = some (RV.tr e x) := fun x hx => by
          simp only [opd] at hx
          split at hx
          · rename_i hb
            exact (f.tmp d x (Nat.le_of_ble_eq_true hb) hx).1
          · cases hx
        have hb : ((ops.toArray[j]?).bind (·.dst)).bind (a.tmps[·]?) = a.tmps[d]? := by
          simp only [List.getElem?_toArray, hj, Option.bind_some, hd]
        split at hv
        · rename_i b' hx
          injection hv with hv; subst hv
          simp only [yielded, hb, hy _ hx, RV.tr]
          cases b' <;> cases want <;> rfl
        · rename_i l hx
          injection hv with hv; subst hv
          simp only [yielded, hb, hy _ hx, RV.tr]
          rfl
        · cases hv
      · cases hv
    · cases hv
/-- every frame is let in; rounds of the loop r -/
abbrev rd (r : Option Nat) : Fence := { Fence.wide with round := r }
/-- the fence of a frame -/
abbrev Fr.fe (F : Fr) (e : Nv) : Fence := rd (F.ro.map e.at_)
theorem fe_same {F F' : Fr} {e e' : Nv} {nx : Nat} (hx : Nv.ext nx e e') (hl : ∀ b, F.ro = some b → b < nx) (hr : F'.ro = F.ro) : F'.fe e' = F.fe e := by
  unfold Fr.fe
  rw [hr]
  cases h : F.ro with
  | none => rfl
  | some b => simp only [Option.map_some, (hx b (hl b h)).1]
theorem not_defer {n : Next} {w' : World} (hr : (execOp a.eval o).run P w = .ok n w') (hn : ∀ d, n ≠ .defer d) : ∀ c, o.op ≠ .defer c := by
  intro c hc
  unfold execOp at hr
  rw [hc] at hr
  simp only [Sem.run_bind] at hr
  cases hq : (resolve a.eval c o.type).run P w with
  | ok d w1 =>
    rw [hq] at hr
    simp only [Result.andThen_ok, Sem.run_pure] at hr
    injection hr with hr _
    exact hn d hr.symm
  | halt x w1 => rw [hq] at hr; cases hr
/-- from a run of one operation to its weakest premise -/
theorem run_wpIn {rr : Option Nat} {n : Next} {w' : World} {next : Act → World → Prop} {Q : Exit → Act → World → Prop} (hr : (execOp a.eval o).run P w = .ok n w') (hn : ∀ d, n ≠ .defer d)
    (h : o.uponIn (rd rr) 0 P a next Q (.ok n w')) : o.wpIn (rd rr) 0 P a w next Q := by
  refine ⟨fun _ _ => trivial, ?_⟩
  rw [Oper.semAt_eq _ _ _ (not_defer hr hn), hr]
  exact h
theorem OpR.wp {rr : Option Nat} (hr : OpR P B w0 e h a o w v h') {b : Act} (hb : execOp b.eval o = execOp a.eval o) {next : Act → World → Prop} {Q : Exit → Act → World → Prop}
    (hn : ∀ e' w', Nv.ext h.nx e e' → RepH B w0 e' h' w' → h.nx ≤ h'.nx → RV.lt h'.nx v → next (b.put o.dst (RV.tr e' v)) w') : o.wpIn (rd rr) 0 P b w next Q := by
  obtain ⟨e', w', hr, hx, r', hl, hv⟩ := hr
  rw [← hb] at hr
  rcases hr with hr | ⟨hr, rfl⟩
  · exact run_wpIn hr (fun d hd => nomatch hd) (hn e' w' hx r' hl hv)
  · exact run_wpIn hr (fun d hd => nomatch hd) (hn e' w' hx r' hl hv)
/-- every operation of the evaluator is one of the machine's -/
def OpSound (P : Program) (Ty : Tr TypeInfo) (call : CallE) : Prop :=
  ∀ {B : Nat → Prop} {w0 : World} {rr : Option Nat} {w : World} {e : Nv} {h h' : Hp} {F : Fr} {a : Act} {o : Oper} {v : RV}, RepH B w0 e h w → RepF e h.nx F a → evOp Ty call F h o = some (v, h') →
    ∀ (b : Act), execOp b.eval o = execOp a.eval o → ∀ (next : Act → World → Prop) (Q : Exit → Act → World → Prop),
      (∀ e' w', Nv.ext h.nx e e' → RepH B w0 e' h' w' → h.nx ≤ h'.nx → RV.lt h'.nx v → next (b.put o.dst (RV.tr e' v)) w') → o.wpIn (rd rr) 0 P b w next Q
/-- a deferred call is put aside -/
theorem defer_run (f : RepF e h.nx F a) {ih : OpsE} {z : Fr × Hp} (hv : deferE ih F h o = some z) :
    ∃ d, F.ro = none ∧ ih ((⟨F.nt, F.T, d :: F.D, none⟩ : Fr).put o.dst (.lit undef)) h = some z ∧
      RepF e h.nx ((⟨F.nt, F.T, d :: F.D, none⟩ : Fr).put o.dst (.lit undef)) (({ a with defers := trD e d :: a.defers } : Act).put o.dst undef) ∧
      (execOp a.eval o).run P w = .ok (.defer (trD e d)) w := by
  unfold deferE at hv
  split at hv
  · rename_i c hc
    split at hv
    · rename_i g hg
      split at hv
      · rename_i q p s xs hu hxs hro
        obtain ⟨he, hlu⟩ := opd_run f hu
        obtain ⟨hx1, hx2⟩ := opds_run f hxs
        have hargs : c.args.map a.eval = (trL e xs).toArray := by rw [← hx1, ← Array.toList_map, Array.toArray_toList]
        obtain ⟨hd, hv⟩ := putK_some hv
        have f1 : RepF e h.nx ⟨F.nt, F.T, .call q (p ++ xs) s :: F.D, none⟩ { a with defers := trD e (.call q (p ++ xs) s) :: a.defers } := by
          refine ⟨f.size, f.fullT, f.tmp, by rw [List.map_cons, f.defers], fun d hd => ?_, fun b hb => nomatch hb⟩
          rcases List.mem_cons.1 hd with rfl | hd
          · exact ⟨ltL_mem.2 fun v hv => by
              rcases List.mem_append.1 hv with h1 | h1
              · exact ltL_mem.1 hlu.1 v h1
              · exact ltL_mem.1 hx2 v h1, hlu.2⟩
          · exact f.dlt d hd
        refine ⟨_, hro, hv, f1.put (v := .lit undef) hd trivial, ?_⟩
        unfold execOp
        rw [hc]
        simp only [Sem.run_bind]
        unfold resolve
        simp only [hg, he, RV.tr, Deferred.ofValue, hargs, Sem.run_pure, Result.andThen_ok, trD, trL_map, List.map_append]
        simp
      · cases hv
    · cases hv
  · cases hv
theorem evOps_run {call : CallE} (S : OpSound P Ty call) {ops : List Oper} {Q : Exit → Act → World → Prop} : ∀ {l : List Oper} {F F' : Fr} {e : Nv} {h h' : Hp} {a : Act} {w : World},
    RepH B w0 e h w → RepF e h.nx F a → evOps Ty call ops l F h = some (F', h') →
    (∀ e' w' a', Nv.ext h.nx e e' → RepH B w0 e' h' w' → RepF e' h'.nx F' a' → h.nx ≤ h'.nx → F'.ro = F.ro → Q .normal a' w') → wpListIn (F.fe e) 0 P ops.toArray Q l a w
  | [], F, F', e, h, h', a, w, r, f, hv, hQ => by
    replace hv : some (F, h) = some (F', h') := hv
    injection hv with hv
    injection hv with h1 h2; subst h1 h2
    exact hQ e w a (Nv.ext.refl _ _) r f (Nat.le_refl _) rfl
  | o :: l, F, F', e, h, h', a, w, r, f, hv, hQ => by
    replace hv : opsStep Ty call ops o (evOps Ty call ops l) F h = some (F', h') := hv
    unfold opsStep at hv
    unfold wpListIn
    split at hv
    · rename_i hw
      rw [if_pos (wantE_run f hw)]
      cases hz : evOp Ty call F h o with
      | none =>
        rw [hz] at hv
        replace hv : deferE (evOps Ty call ops l) F h o = some (F', h') := hv
        obtain ⟨d, hro, hv, f1, hrun⟩ := defer_run (P := P) (w := w) f hv
        have hfe : F.fe e = rd none := by unfold Fr.fe; rw [hro]; rfl
        refine ⟨fun _ _ => trivial, ?_⟩
        rw [hfe]
        show Oper.uponIn _ 0 P o a _ Q ((o.semAt none a.eval).run P w)
        rw [Oper.semAt_none, hrun]
        show wpListIn (rd none) 0 P ops.toArray Q l _ w
        have hfe2 : ((⟨F.nt, F.T, d :: F.D, none⟩ : Fr).put o.dst (.lit undef)).fe e = rd none := by unfold Fr.fe; rw [Fr.put_ro]; rfl
        rw [← hfe2]
        exact evOps_run S r f1 hv fun e2 w2 a2 hx2 r2 f2 hn2 hr2 => hQ e2 w2 a2 hx2 r2 f2 hn2 (by rw [hr2, Fr.put_ro, hro])
      | some p =>
        obtain ⟨v, h1⟩ := p
        rw [hz] at hv
        replace hv : putK (evOps Ty call ops l) F o.dst v h1 = some (F', h') := hv
        obtain ⟨hd, hv⟩ := putK_some hv
        refine S r f hz a rfl _ _ fun e1 w1 hx r1 hn hl => ?_
        have f1 := (f.ext hx hn).put (d := o.dst) hd hl
        rw [← fe_same (F' := F.put o.dst v) hx f.rlt (Fr.put_ro ..)]
        exact evOps_run S r1 f1 hv fun e2 w2 a2 hx2 r2 f2 hn2 hr2 => hQ e2 w2 a2 (hx.trans hx2 hn) r2 f2 (Nat.le_trans hn hn2) (hr2.trans (Fr.put_ro ..))
    · rename_i hw
      rw [if_neg (by rw [wantE_run f hw]; exact Bool.false_ne_true)]
      obtain ⟨hd, hv⟩ := putK_some hv
      have f1 := f.put (d := o.dst) (v := .lit undef) hd trivial
      refine ⟨fun _ _ => trivial, ?_⟩
      rw [← fe_same (F' := F.put o.dst (.lit undef)) (Nv.ext.refl _ _) f.rlt (Fr.put_ro ..)]
      exact evOps_run S r f1 hv fun e2 w2 a2 hx2 r2 f2 hn2 hr2 => hQ e2 w2 a2 hx2 r2 f2 hn2 (hr2.trans (Fr.put_ro ..))
    · cases hv
end
end Go.Proofs.YtkjgmakaidfgaaaGreatDoor
