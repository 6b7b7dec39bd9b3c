/- The evaluator: code with loops over maps; a function that has such a loop. -/
import Derived.Test.YtkjgmakaidfgaaaGreatDoorMlq
namespace Go.Proofs.YtkjgmakaidfgaaaGreatDoor
open Go.RowKit

noncomputable def loopX (Ty : Tr TypeInfo) (call : CallE) (lf : Nat) (pt : PlT) (cs : List Nat) (x : Code) : CodeE := fun F h => match mlOf x with
  | some m => match evMl Ty call lf m cs F h with
    | some r => some r
    | none => evCodeP Ty call lf pt (.loop x) F h
  | none => evCodeP Ty call lf pt (.loop x) F h
noncomputable def evCodeX (Ty : Tr TypeInfo) (call : CallE) (lf : Nat) (pt : PlT) (cs : List Nat) (c : Code) : CodeE :=
  Code.rec (motive := fun _ => CodeE) (evCodeP Ty call lf pt .skip) (fun id ops d => evCodeP Ty call lf pt (.region id ops d))
    (fun _ _ a b F h => thenE b (a F h))
    (fun c _ _ a b F h => condE F h (opd F c) a b)
    (fun i _ b F h => blockE i (b F h))
    (fun x _ => loopX Ty call lf pt cs x)
    (fun g ps asg body _ _ => evCodeP Ty call lf pt (.rangeFunc g ps asg body))
    (fun i => evCodeP Ty call lf pt (.exit i))
    (fun _ b F h => b F h)
    (fun l => evCodeP Ty call lf pt (.label l))
    (fun l => evCodeP Ty call lf pt (.goto l))
    (evCodeP Ty call lf pt .ret)
    (fun s => evCodeP Ty call lf pt (.refuse s)) c
/-- a function whose code has loops over maps -/
noncomputable def runX (Ty : Tr TypeInfo) (dno : FuncId → Bool) (call : CallE) (lf : Nat) (pt : PlT) (cs : List Nat) (fn : Func) : OrcE := fun xs h => match fn.body with
  | some c => match Nat.ble xs.length fn.ntmps, chkC Ty pt c with
    | true, true => finE Ty dno fn.results.toList (evCodeX Ty call lf pt cs c ⟨fn.ntmps, argsT xs 0 (fullR (.lit undef) (Nat.log2 fn.ntmps + 1)), [], none⟩ h)
    | _, _ => none
  | none => none
section
variable {P : Program} {Ty : Tr TypeInfo} {B : Nat → Prop} {w0 : World} {call : CallE} {lf : Nat} {dno : FuncId → Bool}
theorem evMl_run (S : Snd P Ty call) (hc : CallOk P call) (hmo : P.follows .mixedOrders = true) {c : Code} {m : Ml} (hm : mlOf c = some m) (cs : List Nat) : CodeOk P B w0 (.loop c) (evMl Ty call lf m cs) := by
  intro F F' e h h' a w x Q r f hv hQ
  unfold evMl at hv
  split at hv
  · rename_i n hD ht hit
    split at hv
    · rename_i q since c0 hn
      split at hv
      · rename_i es ck hq
        split at hv
        · rename_i l b1 b2 b3 hl
          unfold mlOut at hv
          split at hv
          · rename_i b4 b5
            injection hv with hv
            injection hv with e1 hv; injection hv with e2 e3
            obtain ⟨Z, z1, z2, z3⟩ := mlAll_zip hl
            subst z2
            obtain ⟨k1, k2⟩ := stampE_ok b1
            unfold mlTmps at ht
            split at ht
            · rename_i n1 n2
              simp only [List.all_cons, Bool.and_eq_true] at ht
              obtain ⟨t1, t2, t3, tc⟩ := ht
              have fk := f.clear tc
              have I : MlIn Ty call lf m (F.clear cs) h n q since ck es Z :=
                ⟨⟨c0, [], hn⟩, hq, k1, k2, Nat.le_of_ble_eq_true b3, z1, z3, nodupN_ok b4, b5, Nat.le_of_ble_eq_true t1, Nat.le_of_ble_eq_true t2, Nat.le_of_ble_eq_true t3, Nat.ne_of_beq_eq_false n1, Nat.ne_of_beq_eq_false n2, hD, hit⟩
              refine wpIn_loop_rounds (Z.length + 1) ?_
              have hfe : F.fe e = (F.clear cs).fe e := fe_ro rfl
              rw [hfe]
              refine ml_rounds (B := B) (w0 := w0) I S hc hmo (mlOf_ok hm) (Q := Q) (fun w' a' r' f' => ?_) (Z.length + 1) [] (c0 := c0) (fun z hz => by cases hz) List.nodup_nil (by simp) (Nat.le_of_ble_eq_true b2) ?_ fk
              · subst e1 e2 e3
                have hnx : ((putL (Z.map fun z => z.2) h).drop n).nx = h.nx := putL_nx _ _
                exact hQ e w' a' (Nv.ext.refl _ _) r' (by rw [hnx]; exact f') (Nat.le_of_eq hnx.symm) (by rw [Fr.put_ro, Fr.put_ro]; rfl)
              · refine r.same rfl fun i => ?_
                by_cases hin : n = i
                · subst hin
                  unfold mlH
                  rw [put_same _ (at_small hn)]; exact hn.symm
                · unfold mlH
                  rw [put_other _ (at_small hn) hin]; rfl
            · cases ht
          · cases hv
        · cases hv
      · cases hv
    · cases hv
  · cases hv
theorem evCodeP_run (S : Snd P Ty call) (hc : CallOk P call) (hmo : P.follows .mixedOrders = true) {pt : PlT} {c : Code} (hk : chkC Ty pt c = true) : CodeOk P B w0 c (evCodeP Ty call lf pt c) := by
  rw [evCodeP_eq hk]
  exact evCode_run S hc hmo c
theorem evCodeX_run (S : Snd P Ty call) (hc : CallOk P call) (hmo : P.follows .mixedOrders = true) {pt : PlT} (cs : List Nat) : ∀ {c : Code}, chkC Ty pt c = true → CodeOk P B w0 c (evCodeX Ty call lf pt cs c)
  | .skip, hk => evCodeP_run (lf := lf) S hc hmo hk
  | .region _ _ _, hk => evCodeP_run (lf := lf) S hc hmo hk
  | .seq x y, hk => by
    have h1 : (chkC Ty pt x && chkC Ty pt y) = true := hk
    rw [Bool.and_eq_true] at h1
    exact fun _ _ _ _ _ _ _ _ _ r f hv hQ => wpIn_seq (then_ok (evCodeX_run S hc hmo cs h1.1) r f hv hQ fun r1 f1 hv1 hQ1 hfe => by rw [← hfe]; exact evCodeX_run S hc hmo cs h1.2 r1 f1 hv1 hQ1)
  | .cond c x y, hk => by
    have h1 : (chkC Ty pt x && chkC Ty pt y) = true := hk
    rw [Bool.and_eq_true] at h1
    intro F F' e h h' a w z Q r f hv hQ
    replace hv : condE F h (opd F c) (evCodeX Ty call lf pt cs x) (evCodeX Ty call lf pt cs y) = some (z, F', h') := hv
    unfold condE at hv
    split at hv
    · rename_i hc'
      exact wpIn_cond_true (opd_run f hc').1 (evCodeX_run S hc hmo cs h1.1 r f hv hQ)
    · rename_i hc'
      exact wpIn_cond_false (opd_run f hc').1 (evCodeX_run S hc hmo cs h1.2 r f hv hQ)
    · cases hv
  | .block i c, hk => by
    have h1 : chkC Ty pt c = true := hk
    intro F F' e h h' a w z Q r f hv hQ
    replace hv : blockE i (evCodeX Ty call lf pt cs c F h) = some (z, F', h') := hv
    refine wpIn_block ?_
    unfold blockE at hv
    split at hv
    · rename_i j F1 h1' hz
      split at hv
      · rename_i hj
        replace hv := Option.some.inj hv
        injection hv with h1 h2; injection h2 with h2 h3
        subst h1 h2 h3
        refine evCodeX_run S hc hmo cs (by assumption) r f hz fun e1 w1 a1 hx r1 f1 hn hr => ?_
        show if j = i then _ else _
        rw [if_pos (Nat.eq_of_beq_eq_true hj)]
        exact hQ e1 w1 a1 hx r1 f1 hn hr
      · rename_i hj
        replace hv := Option.some.inj hv
        injection hv with h1 h2; injection h2 with h2 h3
        subst h1 h2 h3
        refine evCodeX_run S hc hmo cs (by assumption) r f hz fun e1 w1 a1 hx r1 f1 hn hr => ?_
        show if j = i then _ else _
        rw [if_neg (Nat.ne_of_beq_eq_false hj)]
        exact hQ e1 w1 a1 hx r1 f1 hn hr
    · rename_i hz
      refine evCodeX_run S hc hmo cs h1 r f hv fun e1 w1 a1 hx r1 f1 hn hr => ?_
      have := hQ e1 w1 a1 hx r1 f1 hn hr
      cases z with
      | normal => exact this
      | exit j => exact (hz _ _ _ hv).elim
      | ret => exact this
  | .loop c, hk => by
    intro F F' e h h' a w z Q r f hv hQ
    replace hv : loopX Ty call lf pt cs c F h = some (z, F', h') := hv
    unfold loopX at hv
    split at hv
    · rename_i m hm
      split at hv
      · rename_i q hq
        injection hv with hv; subst hv
        exact evMl_run S hc hmo hm cs r f hq hQ
      · exact evCodeP_run S hc hmo hk r f hv hQ
    · exact evCodeP_run S hc hmo hk r f hv hQ
  | .rangeFunc _ _ _ _, hk => evCodeP_run (lf := lf) S hc hmo hk
  | .exit _, hk => evCodeP_run (lf := lf) S hc hmo hk
  | .scope c, hk => by
    have h1 : chkC Ty pt c = true := hk
    intro F F' e h h' a w z Q r f hv hQ
    refine wpIn_scope_straight (evCodeX_run S hc hmo cs h1 r f hv fun e1 w1 a1 hx r1 f1 hn hr => ?_)
    have := hQ e1 w1 a1 hx r1 f1 hn hr
    cases z <;> exact this
  | .label _, hk => evCodeP_run (lf := lf) S hc hmo hk
  | .goto _, hk => evCodeP_run (lf := lf) S hc hmo hk
  | .ret, hk => evCodeP_run (lf := lf) S hc hmo hk
  | .refuse _, hk => evCodeP_run (lf := lf) S hc hmo hk
theorem runX_run (K : TyOk P Ty) (S : Snd P Ty call) (hc : CallOk P call) (hm : P.follows .mixedOrders = true) (hD : ∀ g, dno g = true → NoopD P g) {pt : PlT} (cs : List Nat) {f : FuncId} {fn : Func} (hf : P.funcs[f]? = some fn) {xs : List RV} {e : Nv} {h h' : Hp} {v : RV} {w : World}
    (r : RepH B w0 e h w) (hl : ltL h.nx xs) (hv : runX Ty dno call lf pt cs fn xs h = some (v, h')) : Calls P f (trL e xs).toArray w (Gives B w0 e h v h') := by
  unfold runX at hv
  split at hv
  · rename_i c hb
    split at hv
    · rename_i hn hchk
      unfold finE at hv
      split at hv
      · cases hv
      · rename_i x F1 h1 hz hne
        split at hv
        · rename_i h2 hdef
          have key : ∀ (vs : List RV) (u : RV), resE Ty F1 h2 fn.results.toList = some vs → some (u, h2) = some (v, h') →
              (∀ e1, RV.tr e1 u = oneV (trL e1 vs)) → (∀ n, ltL n vs → RV.lt n u) → Calls P f (trL e xs).toArray w (Gives B w0 e h v h') := by
            intro vs u hres hu htr hlt
            injection hu with hu
            injection hu with e1 e2; subst e1 e2
            refine calls_rd (rr := none) (n := 0) (callsIn_of_wp_marks hf hb trivial (evCodeX_run S hc hm cs hchk r (start_frame hl (Nat.le_of_ble_eq_true hn)) hne fun e1 w1 a1 hx r1 f1 hn1 _ => ?_))
            have hleave : LeavesInM (rd none) 0 P fn a1.tmps (Gives B w0 e h u h2) a1.defers .returning w1 := by
              rw [f1.defers]
              refine evDef_run hD F1.D r1 hdef fun w2 r2 hnx => ?_
              obtain ⟨hr1, hr2⟩ := resE_run (P := P) K r2 (by rw [hnx]; exact f1) hres
              have hrr := results_run hr1
              rw [← htr e1] at hrr
              exact ⟨_, hrr, e1, hx, r2, by rw [hnx]; exact hn1, hlt _ hr2, rfl⟩
            cases x with
            | exit i => exact (hz i rfl).elim
            | normal => exact hleave
            | ret => exact hleave
          split at hv
          · rename_i u hres
            exact key [u] u hres hv (fun _ => rfl) fun _ h => h.1
          · rename_i vs hno hres
            refine key vs (.tup vs) hres hv (fun e1 => ?_) fun _ h => h
            match vs, hno with
            | [], _ => rfl
            | [z], hno => exact (hno z rfl).elim
            | _ :: _ :: _, _ => rfl
          · cases hv
        · cases hv
      · cases hv
    · cases hv
  · cases hv
end
end Go.Proofs.YtkjgmakaidfgaaaGreatDoor
