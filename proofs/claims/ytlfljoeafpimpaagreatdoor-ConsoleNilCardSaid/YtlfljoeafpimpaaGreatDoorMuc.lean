/- Loops over maps of a few entries, in whatever order: all the states that they may end in; calls that end in one of some states. Code, and functions, that end in one of some states. -/
import Derived.Test.YtlfljoeafpimpaaGreatDoorMlr
namespace Go.Proofs.YtlfljoeafpimpaaGreatDoor
open Go.RowKit Go.ChangeMaps

def joinA {α β : Type} (g : α → Option (List β)) : List α → Option (List β)
  | [] => some []
  | x :: l => match g x, joinA g l with
    | some a, some b => some (a ++ b)
    | _, _ => none
theorem joinA_mem {α β : Type} {g : α → Option (List β)} : ∀ {l : List α} {r : List β}, joinA g l = some r → ∀ x ∈ l, ∃ a, g x = some a ∧ ∀ y ∈ a, y ∈ r
  | [], _, _, x, hx => by cases hx
  | z :: l, r, h, x, hx => by
    unfold joinA at h
    split at h
    · rename_i a b h1 h2
      injection h with h; subst h
      rcases List.mem_cons.1 hx with rfl | hx
      · exact ⟨a, h1, fun y hy => List.mem_append.2 (.inl hy)⟩
      · obtain ⟨c, hc, hm⟩ := joinA_mem h2 x hx
        exact ⟨c, hc, fun y hy => List.mem_append.2 (.inr (hm y hy))⟩
    · cases h
/-- a loop over a map: all states that it may end in -/
noncomputable def anyR (Ty : Tr TypeInfo) (call : CallE) (lf : Nat) (m : Ml) : Nat → Fr → Hp → Option (List (Fr × Hp))
  | 0 => fun _ _ => none
  | k + 1 => fun F h => match opd F (.tmp m.i) with
    | some (.ptr n 0) => match h.at? n with
      | some (.itr (some q) since seen c0) => match h.at? q with
        | some (.map es ck) => match stampE since es, Nat.ble since c0, Nat.ble since ck, mlTmps m [] F.nt with
          | true, true, true, true => match leftE seen es with
            | [] => some [((F.put (some m.t1) (.tup [.lit (.bool false)])).put (some m.t2) (.lit (.bool false)), h)]
            | y :: l => joinA (fun x => match mlRun Ty call lf m (mlF m F x) (h.put n (.itr (some q) since (seen ++ [x.2.2]) ck)) with
              | some (.normal, F5, h5) => anyR Ty call lf m k F5 h5
              | _ => none) (y :: l)
          | _, _, _, _ => none
        | _ => none
      | _ => none
    | _ => none
section
variable {P : Program} {Ty : Tr TypeInfo} {B : Nat → Prop} {w0 w : World} {e : Nv} {h : Hp} {call : CallE} {lf : Nat}
theorem mlRun_ok' (S : Snd P Ty call) (hc : CallOk P call) (hmo : P.follows .mixedOrders = true) {m : Ml} {F F5 : Fr} {h5 : Hp} {id2 : Nat} {o3 : Oper} {a : Act} {v : Value} {Q : Exit → Act → World → Prop} (hops : m.ops2.toList = o3 :: m.rest) (hg : o3.guard = none)
    (r : RepH B w0 e h w) (hr : (execOp a.eval o3).run P w = .ok (.value v) w) (f : RepF e h.nx F (a.put o3.dst v)) (hv : mlRun Ty call lf m F h = some (.normal, F5, h5)) (hQ : ∀ e' w' a', Nv.ext h.nx e e' → RepH B w0 e' h5 w' → RepF e' h5.nx F5 a' → h.nx ≤ h5.nx → F5.ro = F.ro → Q .normal a' w') :
    (Code.block m.j (.seq (.region id2 m.ops2 false) m.r3)).wpIn (F.fe e) 0 P Q a w := by
  unfold mlRun at hv
  refine wpIn_block (wpIn_seq (wpIn_region_list ?_))
  rw [hops]
  refine one_step hg hr ?_
  cases hz : evOps Ty call m.ops2.toList m.rest F h with
  | none => rw [hz] at hv; cases hv
  | some q =>
    obtain ⟨F4, h4⟩ := q
    rw [hz] at hv
    replace hv : blockE m.j (evCode Ty call lf m.r3 F4 h4) = some (.normal, F5, h5) := hv
    have key := evOps_run S.op (ops := m.ops2.toList) (l := m.rest) (Q := Exit.then (Code.wpIn (F.fe e) 0 P m.r3 (Exit.inBlock m.j Q)) (Exit.inBlock m.j Q)) r f hz fun e4 w4 a4 hx4 r4 f4 hn4 hr4 => ?_
    · rw [Array.toArray_toList] at key
      exact key
    · show m.r3.wpIn (F.fe e) 0 P _ a4 w4
      rw [← fe_same hx4 f.rlt hr4]
      unfold blockE at hv
      split at hv
      · rename_i j F1 h1 hz3
        split at hv
        · rename_i hj
          injection hv with hv
          injection hv with _ hv; injection hv with e1 e2; subst e1 e2
          refine evCode_run S hc hmo m.r3 r4 f4 hz3 fun e5 w5 a5 hx5 r5 f5 hn5 hr5 => ?_
          show if j = m.j then _ else _
          rw [if_pos (Nat.eq_of_beq_eq_true hj)]
          exact hQ e5 w5 a5 (hx4.trans hx5 hn4) r5 f5 (Nat.le_trans hn4 hn5) (hr5.trans hr4)
        · injection hv with hv
          injection hv with hv _; cases hv
      · rename_i hno
        refine evCode_run S hc hmo m.r3 r4 f4 hv fun e5 w5 a5 hx5 r5 f5 hn5 hr5 => ?_
        exact hQ e5 w5 a5 (hx4.trans hx5 hn4) r5 f5 (Nat.le_trans hn4 hn5) (hr5.trans hr4)
theorem Ends.from {B : Nat → Prop} {w0 : World} {e e5 : Nv} {h h5 h' : Hp} {F F5 F' : Fr} {x : Xt} {Q : Exit → Act → World → Prop} (hE : Ends B w0 e h F x F' h' Q) (hx : Nv.ext h.nx e e5) (hn : h.nx ≤ h5.nx) (hro : F5.ro = F.ro) : Ends B w0 e5 h5 F5 x F' h' Q :=
  fun e' w' a' hx' r f hn' hr => hE e' w' a' (hx.trans hx' hn) r f (Nat.le_trans hn hn') (hr.trans hro)
theorem anyR_ok (Sn : Snd P Ty call) (hc : CallOk P call) (hmo : P.follows .mixedOrders = true) {c : Code} {m : Ml} (hm : MlOk c m) {Q : Exit → Act → World → Prop} :
    ∀ (k : Nat) {F : Fr} {h : Hp} {outs : List (Fr × Hp)} {e : Nv} {a : Act} {w : World}, anyR Ty call lf m k F h = some outs → RepH B w0 e h w → RepF e h.nx F a →
      (∀ o ∈ outs, Ends B w0 e h F (.exit m.k) o.1 o.2 Q) → Code.roundsIn (F.fe e) 0 P c Q k a w
  | 0, F, h, outs, e, a, w, hv, _, _, _ => by cases hv
  | k + 1, F, h, outs, e, a, w, hv, r, f, hQ => by
    unfold anyR at hv
    split at hv
    · rename_i n hi
      split at hv
      · rename_i q since seen c0 hn
        split at hv
        · rename_i es ck hq
          split at hv
          · rename_i b1 b2 b3 b4
            obtain ⟨born, nodup⟩ := stampE_ok b1
            have hsc := Nat.le_of_ble_eq_true b2
            have hsk := Nat.le_of_ble_eq_true b3
            unfold mlTmps at b4
            split at b4
            · rename_i n1 n2
              simp only [List.all_cons, List.all_nil, Bool.and_eq_true, Bool.and_true] at b4
              obtain ⟨t1, t2, t3⟩ := b4
              have t1 := Nat.le_of_ble_eq_true t1
              have t2 := Nat.le_of_ble_eq_true t2
              have t3 := Nat.le_of_ble_eq_true t3
              have n1 := Nat.ne_of_beq_eq_false n1
              have n2 := Nat.ne_of_beq_eq_false n2
              have hnq : n ≠ q := fun hh => by subst hh; rw [hn] at hq; cases hq
              have hns := at_small hn
              obtain ⟨id1, id2, ops1, o1, o2, o3, rfl, hops1, hops2, ⟨d1, p1, g1⟩, ⟨d2, p2, g2⟩, ⟨d3, p3, g3⟩⟩ := hm.code
              have hit : w.heap[e.at_ n]? = some (.mapIter (some (e.at_ q)) since seen.toArray c0) := (r.obj n _ hn).2.2.1
              have hblk : w.heap[e.at_ q]? = some (.map (es.map (trE e)).toArray ck) := (r.obj q _ hq).2.2.1
              have hold : ∀ z ∈ ((es.map (trE e)).toArray).toList, z.born < since := fun z hz => by
                simp only at hz
                obtain ⟨u, hu, rfl⟩ := List.mem_map.1 hz
                exact born u hu
              have hit0 : a.eval (.tmp m.i) = .pointer (some ⟨e.at_ n, 0, none⟩) := (opd_run f hi).1
              show (Code.seq _ _).wpIn (F.fe e) 0 P _ a w
              refine wpIn_seq (wpIn_region_list ?_)
              rw [hops1]
              rcases run_next_at (P := P) w o1.type (e.at_ n) (e.at_ q) since c0 seen.toArray _ ck hit hblk hold hsc with ⟨hleft, hr⟩ | ⟨z', hz', w1, hw1, hr⟩
              · -- nothing is left
                rw [left_of] at hleft
                simp only [List.size_toArray, List.length_map] at hleft
                have hle := List.eq_nil_of_length_eq_zero hleft
                rw [hle] at hv
                replace hv : some [((F.put (some m.t1) (.tup [.lit (.bool false)])).put (some m.t2) (.lit (.bool false)), h)] = some outs := hv
                injection hv with hv; subst hv
                refine one_step g1 (v := .tuple #[.bool false]) (w' := w) (by unfold execOp; rw [p1]; refine run_value ?_; rw [hit0]; exact hr) ?_
                have f1 := f.put (d := some m.t1) (v := .tup [.lit (.bool false)]) (fun t ht => by injection ht with ht; subst ht; exact t1) ⟨trivial, trivial⟩
                have e1 : opExt (F.put (some m.t1) (.tup [.lit (.bool false)])) h (.tmp m.t1) 0 = some (.lit (.bool false), h) := by
                  unfold opExt
                  rw [ml_opd f t1]; rfl
                rw [d1]
                have q1 := (opExt_run (P := P) (w := w) f1 e1 p2).1.1
                refine one_step g2 q1 ?_
                rw [d2]
                have f2 := f1.put (d := some m.t2) (v := .lit (.bool false)) (fun t ht => by injection ht with ht; subst ht; exact t2) trivial
                show (Code.seq _ _).wpIn (F.fe e) 0 P _ _ w
                refine wpIn_seq (wpIn_cond_false ?_ (wpIn_exit ?_))
                · exact (opd_run f2 (ml_opd f1 t2)).1
                · exact hQ _ (List.mem_singleton.2 rfl) e w _ (Nv.ext.refl _ _) r f2 (Nat.le_refl _) (by rw [Fr.put_ro, Fr.put_ro])
              · -- one is left
                rw [left_of] at hz'
                simp only [List.mem_map] at hz'
                obtain ⟨x, hx, rfl⟩ := hz'
                cases hlf : leftE seen es with
                | nil => rw [hlf] at hx; cases hx
                | cons y l =>
                  rw [hlf] at hv hx
                  obtain ⟨o5, hrun0, hsub⟩ := joinA_mem hv x hx
                  have hxes : x ∈ es := by
                    rw [← hlf, leftE_eq, List.mem_filter] at hx
                    exact hx.1
                  split at hrun0
                  · rename_i F5 h5 hrun
                    have r1 : RepH B w0 e h w1 := by
                      rcases hw1 with rfl | rfl
                      · exact r
                      · exact r.drew
                    have r2 := r1.setObj (x := .mapIter (some (e.at_ q)) since (seen ++ [x.2.2]).toArray ck) (o' := .itr (some q) since (seen ++ [x.2.2]) ck) hn (by simp [RO.ok]) (r.obj n _ hn).2.2.2
                    have hzl := map_lt r hq x hxes
                    refine one_step g1 (v := .tuple #[.bool true, RV.tr e x.1, RV.tr e x.2.1]) (w' := setBlock w1 (e.at_ n) (.mapIter (some (e.at_ q)) since (seen.toArray.push (trE e x).born) ck)) (by unfold execOp; rw [p1]; refine run_value ?_; rw [hit0]; exact hr) ?_
                    have hset : setBlock w1 (e.at_ n) (.mapIter (some (e.at_ q)) since (seen.toArray.push (trE e x).born) ck) = { w1 with heap := w1.heap.setIfInBounds (e.at_ n) (.mapIter (some (e.at_ q)) since (seen ++ [x.2.2]).toArray ck) } := by
                      simp [setBlock, trE]
                    rw [hset]
                    generalize hw2 : ({ w1 with heap := w1.heap.setIfInBounds (e.at_ n) (.mapIter (some (e.at_ q)) since (seen ++ [x.2.2]).toArray ck) } : World) = w2 at r2
                    have f1 := f.put (d := some m.t1) (v := .tup [.lit (.bool true), x.1, x.2.1]) (fun t ht => by injection ht with ht; subst ht; exact t1) ⟨trivial, hzl.1, hzl.2, trivial⟩
                    have e1 : opExt (F.put (some m.t1) (.tup [.lit (.bool true), x.1, x.2.1])) h (.tmp m.t1) 0 = some (.lit (.bool true), h) := by
                      unfold opExt
                      rw [ml_opd f t1]; rfl
                    rw [d1]
                    have q1 := (opExt_run (P := P) (w := w2) f1 e1 p2).1.1
                    refine one_step g2 q1 ?_
                    rw [d2]
                    have f2 := f1.put (d := some m.t2) (v := .lit (.bool true)) (fun t ht => by injection ht with ht; subst ht; exact t2) trivial
                    show (Code.seq _ _).wpIn (F.fe e) 0 P _ _ w2
                    refine wpIn_seq (wpIn_cond_true ?_ (wpIn_skip ?_))
                    · exact (opd_run f2 (ml_opd f1 t2)).1
                    show (Code.block _ _).wpIn (F.fe e) 0 P _ _ w2
                    have hatn2 : (h.put n (.itr (some q) since (seen ++ [x.2.2]) ck)).at? n = some (.itr (some q) since (seen ++ [x.2.2]) ck) := put_same _ hns
                    have hatq2 : (h.put n (.itr (some q) since (seen ++ [x.2.2]) ck)).at? q = some (.map es ck) := (put_other _ hns hnq).trans hq
                    have hit2 : w2.heap[e.at_ n]? = some (.mapIter (some (e.at_ q)) since (seen.toArray.push (trE e x).born) ck) := by
                      have := (r2.obj n _ hatn2).2.2.1
                      simpa [RO.ok, trE] using this
                    have hblk2 : w2.heap[e.at_ q]? = some (.map (es.map (trE e)).toArray ck) := (r2.obj q _ hatq2).2.2.1
                    have hent := run_entry_at (P := P) w2 (e.at_ n) (e.at_ q) since seen.toArray (es.map (trE e)).toArray ck (trE e x) hit2 hblk2 (by simpa using ⟨_, _, _, hxes, rfl⟩) (by
                      have h1 := nodup
                      simp only [List.map_map]
                      exact h1)
                    have hit3 : (((a.put (some m.t1) (RV.tr e (.tup [.lit (.bool true), x.1, x.2.1]))).put (some m.t2) (RV.tr e (.lit (.bool true)))).eval (.tmp m.i)) = .pointer (some ⟨e.at_ n, 0, none⟩) := by
                      have hilt : m.i < F.nt := by
                        have hi' := hi
                        simp only [opd] at hi'
                        split at hi'
                        · rename_i hb; exact Nat.le_of_ble_eq_true hb
                        · cases hi'
                      have h4 := ml_opdo (v := .tup [.lit (.bool true), x.1, x.2.1]) f t1 hilt n1
                      have h3 := ml_opdo (v := .lit (.bool true)) f1 t2 hilt n2
                      rw [h4, hi] at h3
                      exact (opd_run f2 h3).1
                    have f3 := f2.put (d := some m.t3) (v := .tup [x.1, x.2.1]) (fun t ht => by injection ht with ht; subst ht; exact t3) ⟨hzl.1, hzl.2, trivial⟩
                    have hfe : F.fe e = (mlF m F x).fe e := fe_ro (by unfold mlF; rw [Fr.put_ro, Fr.put_ro, Fr.put_ro])
                    have hro3 : (mlF m F x).ro = F.ro := by unfold mlF; rw [Fr.put_ro, Fr.put_ro, Fr.put_ro]
                    rw [hfe]
                    refine mlRun_ok' (h := h.put n (.itr (some q) since (seen ++ [x.2.2]) ck)) Sn hc hmo hops2 g3 r2 (v := RV.tr e (.tup [x.1, x.2.1])) (by unfold execOp; rw [p3]; refine run_value ?_; exact (congrArg (fun x => (Instr.entry x).run P w2) hit3).trans hent) (by rw [d3]; exact f3) hrun fun e5 w5 a5 hx5 r5 f5 hn5 hro5 => ?_
                    show Code.roundsIn _ 0 P _ Q k a5 w5
                    rw [← hfe, ← fe_same hx5 f.rlt (hro5.trans hro3)]
                    exact anyR_ok Sn hc hmo hm k hrun0 r5 f5 fun o ho => (hQ o (hsub o ho)).from hx5 hn5 (hro5.trans hro3)
                  · cases hrun0
            · cases b4
          · cases hv
        · cases hv
      · cases hv
    · cases hv
end
end Go.Proofs.YtlfljoeafpimpaaGreatDoor
namespace Go.Proofs.YtlfljoeafpimpaaGreatDoor
open Go.RowKit

abbrev CodeM := Fr → Hp → Option (List (Xt × Fr × Hp))
abbrev CallM := FuncId → Option (List RV → Hp → Option (List (RV × Hp)))
def oneM (r : Option (Xt × Fr × Hp)) : Option (List (Xt × Fr × Hp)) := r.map fun x => [x]
/-- a call of a function of several ends -/
noncomputable def callM (M : CallM) (F : Fr) (o : Oper) : Option ((List RV → Hp → Option (List (RV × Hp))) × List RV × FuncId) := match o.op, o.guard with
  | .call c, none => match c.callee with
    | .value f => match opd F f, opds F c.args.toList with
      | some (.fn (.func g) [] []), some xs => (M g).map fun m => (m, xs, g)
      | _, _ => none
    | _ => none
  | _, _ => none
noncomputable def opsM (Ty : Tr TypeInfo) (call : CallE) (M : CallM) (ops : List Oper) : List Oper → Fr → Hp → Option (List (Fr × Hp))
  | [] => fun F h => some [(F, h)]
  | o :: l => fun F h => match callM M F o with
    | some p => match p.1 p.2.1 h with
      | some outs => joinA (fun q => match (match o.dst with
        | none => true
        | some d => Nat.ble (d + 1) F.nt) with
        | true => opsM Ty call M ops l (F.put o.dst q.1) q.2
        | false => none) outs
      | none => none
    | none => match opsStep Ty call ops o (fun F h => some (F, h)) F h with
      | some p => opsM Ty call M ops l p.1 p.2
      | none => none
noncomputable def thenM (k : CodeM) (r : Option (List (Xt × Fr × Hp))) : Option (List (Xt × Fr × Hp)) := match r with
  | some l => joinA (fun o => match o.1 with
    | .normal => k o.2.1 o.2.2
    | _ => some [o]) l
  | none => none
noncomputable def blockM (i : Nat) (r : Option (List (Xt × Fr × Hp))) : Option (List (Xt × Fr × Hp)) := match r with
  | some l => some (l.map fun o => match o.1 with
    | .exit j => match Nat.beq j i with
      | true => (.normal, o.2.1, o.2.2)
      | false => o
    | _ => o)
  | none => none
noncomputable def regM (x : Xt) (r : Option (List (Fr × Hp))) : Option (List (Xt × Fr × Hp)) := match r with
  | some l => some (l.map fun p => (x, p.1, p.2))
  | none => none
noncomputable def condM (F : Fr) (h : Hp) (c : Option RV) (a b : CodeM) : Option (List (Xt × Fr × Hp)) := match c with
  | some (.lit (.bool true)) => a F h
  | some (.lit (.bool false)) => b F h
  | _ => none
noncomputable def evCodeM (Ty : Tr TypeInfo) (call : CallE) (lf : Nat) (pt : PlT) (M : CallM) (c : Code) : CodeM :=
  Code.rec (motive := fun _ => CodeM) (fun F h => oneM (evCodeP Ty call lf pt .skip F h))
    (fun id ops d F h => match d with
      | false => regM .normal (opsM Ty call M ops.toList ops.toList F h)
      | true => oneM (evCodeP Ty call lf pt (.region id ops true) F h))
    (fun _ _ a b F h => thenM b (a F h))
    (fun c _ _ a b F h => condM F h (opd F c) a b)
    (fun i _ b F h => blockM i (b F h))
    (fun x _ F h => match mlOf x with
      | some m => regM (.exit m.k) (anyR Ty call lf m 9 F h)
      | none => oneM (evCodeP Ty call lf pt (.loop x) F h))
    (fun g ps asg body _ _ F h => oneM (evCodeP Ty call lf pt (.rangeFunc g ps asg body) F h))
    (fun i F h => oneM (evCodeP Ty call lf pt (.exit i) F h))
    (fun _ b F h => b F h)
    (fun l F h => oneM (evCodeP Ty call lf pt (.label l) F h))
    (fun l F h => oneM (evCodeP Ty call lf pt (.goto l) F h))
    (fun F h => oneM (evCodeP Ty call lf pt .ret F h))
    (fun s F h => oneM (evCodeP Ty call lf pt (.refuse s) F h)) c
noncomputable def runM (Ty : Tr TypeInfo) (dno : FuncId → Bool) (call : CallE) (lf : Nat) (pt : PlT) (M : CallM) (fn : Func) : List RV → Hp → Option (List (RV × Hp)) := fun xs h => match fn.body with
  | some c => match Nat.ble xs.length fn.ntmps, chkC Ty pt c with
    | true, true => match evCodeM Ty call lf pt M c ⟨fn.ntmps, argsT xs 0 (fullR (.lit undef) (Nat.log2 fn.ntmps + 1)), [], none⟩ h with
      | some l => joinA (fun o => (finE Ty dno call.df fn.results.toList (some o)).map fun p => [p]) l
      | none => none
    | _, _ => none
  | none => none
section
variable {P : Program} {Ty : Tr TypeInfo} {B : Nat → Prop} {w0 : World} {call : CallE} {lf : Nat} {dno : FuncId → Bool} {M : CallM}
/-- what a call of several ends promises -/
def ManyOk (P : Program) (f : FuncId) (g : List RV → Hp → Option (List (RV × Hp))) : Prop := ∀ {B : Nat → Prop} {w0 : World} (xs : List RV) (e : Nv) (h : Hp) (outs : List (RV × Hp)) (w : World), RepH B w0 e h w → ltL h.nx xs → g xs h = some outs →
  Enters P f ∧ Calls P f (trL e xs).toArray w fun en w' => ∃ p ∈ outs, Gives B w0 e h p.1 p.2 en w'
def CallMOk (P : Program) (M : CallM) : Prop := ∀ f g, M f = some g → ManyOk P f g
def CodeOkM (P : Program) (B : Nat → Prop) (w0 : World) (c : Code) (g : CodeM) : Prop :=
  ∀ ⦃F : Fr⦄ ⦃e : Nv⦄ ⦃h : Hp⦄ ⦃a : Act⦄ ⦃w : World⦄ ⦃outs : List (Xt × Fr × Hp)⦄ ⦃Q : Exit → Act → World → Prop⦄, RepH B w0 e h w → RepF e h.nx F a → g F h = some outs → (∀ o ∈ outs, Ends B w0 e h F o.1 o.2.1 o.2.2 Q) → c.wpIn (F.fe e) 0 P Q a w
theorem oneM_ok {c : Code} {g : CodeE} (hg : CodeOk P B w0 c g) : CodeOkM P B w0 c (fun F h => oneM (g F h)) := by
  intro F e h a w outs Q r f hv hQ
  obtain ⟨z, hz, rfl⟩ := some_map hv
  obtain ⟨x, F', h'⟩ := z
  exact hg r f hz (hQ _ (List.mem_singleton.2 rfl))
theorem step_run (S : OpSound P Ty call) {ops l : List Oper} {o : Oper} {Q : Exit → Act → World → Prop} {F F1 : Fr} {e : Nv} {h h1 : Hp} {a : Act} {w : World} (r : RepH B w0 e h w) (f : RepF e h.nx F a) (hv : opsStep Ty call ops o (fun F h => some (F, h)) F h = some (F1, h1))
    (hk : ∀ e' w' a', Nv.ext h.nx e e' → RepH B w0 e' h1 w' → RepF e' h1.nx F1 a' → h.nx ≤ h1.nx → F1.ro = F.ro → wpListIn (F1.fe e') 0 P ops.toArray Q l a' w') : wpListIn (F.fe e) 0 P ops.toArray Q (o :: l) a w := by
  unfold opsStep at hv
  unfold wpListIn
  split at hv
  · rename_i hw
    rw [if_pos (wantE_run f hw)]
    cases hz : evOp Ty call F h o with
    | none =>
      rw [hz] at hv
      replace hv : deferE (fun F h => some (F, h)) F h o = some (F1, h1) := hv
      obtain ⟨d, hro, hv, f1, hrun⟩ := defer_run (P := P) (w := w) f hv
      injection hv with hv
      injection hv with e1 e2; subst e1 e2
      have hfe : F.fe e = rd none := by unfold Fr.fe; rw [hro]; rfl
      refine ⟨fun _ _ => trivial, ?_⟩
      rw [hfe]
      show Oper.uponIn _ 0 P o a _ Q ((o.semAt none a.eval).run P w)
      rw [Oper.semAt_none, hrun]
      show wpListIn (rd none) 0 P ops.toArray Q l _ w
      have hfe2 : ((⟨F.nt, F.T, d :: F.D, none⟩ : Fr).put o.dst (.lit undef)).fe e = rd none := by unfold Fr.fe; rw [Fr.put_ro]; rfl
      rw [← hfe2]
      exact hk e w _ (Nv.ext.refl _ _) r f1 (Nat.le_refl _) (by rw [Fr.put_ro, hro])
    | some p =>
      obtain ⟨v, h2⟩ := p
      rw [hz] at hv
      replace hv : putK (fun F h => some (F, h)) F o.dst v h2 = some (F1, h1) := hv
      obtain ⟨hd, hv⟩ := putK_some hv
      injection hv with hv
      injection hv with e1 e2; subst e1 e2
      refine S r f hz a rfl _ _ fun e1 w1 hx r1 hn hl => ?_
      have f1 := (f.ext hx hn).put (d := o.dst) hd hl
      rw [← fe_same (F' := F.put o.dst v) hx f.rlt (Fr.put_ro ..)]
      exact hk e1 w1 _ hx r1 f1 hn (Fr.put_ro ..)
  · rename_i hw
    rw [if_neg (by rw [wantE_run f hw]; exact Bool.false_ne_true)]
    obtain ⟨hd, hv⟩ := putK_some hv
    injection hv with hv
    injection hv with e1 e2; subst e1 e2
    have f1 := f.put (d := o.dst) (v := .lit undef) hd trivial
    refine ⟨fun _ _ => trivial, ?_⟩
    rw [← fe_same (F' := F.put o.dst (.lit undef)) (Nv.ext.refl _ _) f.rlt (Fr.put_ro ..)]
    exact hk e w _ (Nv.ext.refl _ _) r f1 (Nat.le_refl _) (Fr.put_ro ..)
  · cases hv
theorem callM_some {F : Fr} {e : Nv} {h : Hp} {a : Act} {o : Oper} {p : (List RV → Hp → Option (List (RV × Hp))) × List RV × FuncId} (f : RepF e h.nx F a) (hp : callM M F o = some p) (hE : Enters P p.2.2) (w : World) :
    M p.2.2 = some p.1 ∧ o.guard = none ∧ ltL h.nx p.2.1 ∧ (execOp a.eval o).run P w = .ok (.enter p.2.2 (trL e p.2.1).toArray) w := by
  unfold callM at hp
  split at hp
  · rename_i c ho hg
    split at hp
    · rename_i q hc
      split at hp
      · rename_i g xs hq hxs
        obtain ⟨m, hm, rfl⟩ := some_map hp
        obtain ⟨hx1, hx2⟩ := opds_run f hxs
        have hargs : c.args.map a.eval = (trL e xs).toArray := by rw [← hx1, ← Array.toList_map, Array.toArray_toList]
        obtain ⟨he, _⟩ := opd_run f hq
        refine ⟨hm, hg, hx2, ?_⟩
        unfold execOp
        rw [ho]
        show (do let d ← resolve a.eval c o.type; invoke d.target d.args).run P w = _
        unfold resolve
        simp only [hc, he, RV.tr, Deferred.ofValue, hargs, Sem.run_bind, Sem.run_pure, Result.andThen_ok, invoke]
        rw [hE.run]
        simp [trL]
      · cases hp
    · cases hp
  · cases hp
theorem opsM_ok (S : OpSound P Ty call) (hM : CallMOk P M) {ops : List Oper} {Q : Exit → Act → World → Prop} : ∀ {l : List Oper} {F : Fr} {e : Nv} {h : Hp} {a : Act} {w : World} {outs : List (Fr × Hp)},
    RepH B w0 e h w → RepF e h.nx F a → opsM Ty call M ops l F h = some outs → (∀ o ∈ outs, Ends B w0 e h F .normal o.1 o.2 Q) → wpListIn (F.fe e) 0 P ops.toArray Q l a w
  | [], F, e, h, a, w, outs, r, f, hv, hQ => by
    replace hv : some [(F, h)] = some outs := hv
    injection hv with hv; subst hv
    exact hQ _ (List.mem_singleton.2 rfl) e w a (Nv.ext.refl _ _) r f (Nat.le_refl _) rfl
  | o :: l, F, e, h, a, w, outs, r, f, hv, hQ => by
    replace hv : (match callM M F o with
      | some p => match p.1 p.2.1 h with
        | some outs => joinA (fun q => match (match o.dst with
          | none => true
          | some d => Nat.ble (d + 1) F.nt) with
          | true => opsM Ty call M ops l (F.put o.dst q.1) q.2
          | false => none) outs
        | none => none
      | none => match opsStep Ty call ops o (fun F h => some (F, h)) F h with
        | some p => opsM Ty call M ops l p.1 p.2
        | none => none) = some outs := hv
    split at hv
    · rename_i p hp
      split at hv
      · rename_i os hos
        have hmg : M p.2.2 = some p.1 := by
          unfold callM at hp
          split at hp
          · split at hp
            · split at hp
              · obtain ⟨m, hm, rfl⟩ := some_map hp
                exact hm
              · cases hp
            · cases hp
          · cases hp
        have hlt : ltL h.nx p.2.1 := by
          unfold callM at hp
          split at hp
          · split at hp
            · split at hp
              · rename_i g xs hq hxs
                obtain ⟨m, hm, rfl⟩ := some_map hp
                exact (opds_run f hxs).2
              · cases hp
            · cases hp
          · cases hp
        obtain ⟨hE, hC⟩ := hM _ _ hmg (B := B) (w0 := w0) p.2.1 e h os w r hlt hos
        obtain ⟨_, hg, _, hr⟩ := callM_some f hp hE w
        unfold wpListIn
        rw [if_pos (by unfold Region.wanted; rw [hg])]
        refine run_wpIn hr (fun d hd => nomatch hd) ?_
        rw [Oper.uponIn_enter]
        have hC' : CallsIn (F.fe e) 0 P p.2.2 (trL e p.2.1).toArray w fun en w' => ∃ q ∈ os, Gives B w0 e h q.1 q.2 en w' := rd_calls (rr := F.ro.map e.at_) hC
        refine ⟨(fun h0 => by cases h0), hC'.mono fun en w' hg => ?_⟩
        obtain ⟨q, hq, hg⟩ := hg
        obtain ⟨o5, ho5, hsub⟩ := joinA_mem hv q hq
        cases en with
        | returned u =>
          obtain ⟨e', hx, r', hle, hl, rfl⟩ := hg
          split at ho5
          · rename_i hd
            have hd' : ∀ t, o.dst = some t → t < F.nt := fun t ht => by
              rw [ht] at hd
              exact Nat.le_of_ble_eq_true hd
            have f1 := (f.ext hx hle).put (d := o.dst) hd' hl
            show wpListIn (F.fe e) 0 P ops.toArray Q l _ w'
            rw [← fe_same (F' := F.put o.dst q.1) hx f.rlt (Fr.put_ro ..)]
            exact opsM_ok S hM r' f1 ho5 fun z hz => (hQ z (hsub z hz)).from hx hle (Fr.put_ro ..)
          · cases ho5
        | panicked c => exact hg.elim
        | outgrown => exact hg.elim
      · cases hv
    · split at hv
      · rename_i p hp
        obtain ⟨F1, h1⟩ := p
        exact step_run S r f hp fun e1 w1 a1 hx r1 f1 hn hro => opsM_ok S hM r1 f1 hv fun z hz => (hQ z hz).from hx hn hro
      · cases hv
theorem evCodeM_ok (S : Snd P Ty call) (hc : CallOk P call) (hmo : P.follows .mixedOrders = true) (hM : CallMOk P M) {pt : PlT} : ∀ {c : Code}, chkC Ty pt c = true → CodeOkM P B w0 c (evCodeM Ty call lf pt M c)
  | .skip, hk => oneM_ok (evCodeP_run (lf := lf) S hc hmo hk)
  | .region _ ops d, hk => by
    cases d with
    | true => exact oneM_ok (evCodeP_run (lf := lf) S hc hmo hk)
    | false =>
      intro F e h a w outs Q r f hv hQ
      replace hv : regM .normal (opsM Ty call M ops.toList ops.toList F h) = some outs := hv
      unfold regM at hv
      split at hv
      · rename_i l hl
        injection hv with hv; subst hv
        refine wpIn_region_list ?_
        have key := opsM_ok (ops := ops.toList) S.op hM r f hl (Q := Q) fun o ho => hQ (.normal, o.1, o.2) (List.mem_map.2 ⟨o, ho, rfl⟩)
        rw [Array.toArray_toList] at key
        exact key
      · cases hv
  | .seq x y, hk => by
    have h1 : (chkC Ty pt x && chkC Ty pt y) = true := hk
    rw [Bool.and_eq_true] at h1
    intro F e h a w outs Q r f hv hQ
    replace hv : thenM (evCodeM Ty call lf pt M y) (evCodeM Ty call lf pt M x F h) = some outs := hv
    unfold thenM at hv
    split at hv
    · rename_i l hl
      refine wpIn_seq (evCodeM_ok S hc hmo hM h1.1 r f hl fun o ho => ?_)
      obtain ⟨o5, ho5, hsub⟩ := joinA_mem hv o ho
      obtain ⟨x1, F1, h2⟩ := o
      intro e1 w1 a1 hx r1 f1 hn hro
      cases x1 with
      | normal =>
        show y.wpIn (F.fe e) 0 P Q a1 w1
        rw [← fe_same hx f.rlt hro]
        exact evCodeM_ok S hc hmo hM h1.2 r1 f1 ho5 fun z hz => (hQ z (hsub z hz)).from hx hn hro
      | exit i =>
        injection ho5 with ho5; subst ho5
        exact hQ _ (hsub _ (List.mem_singleton.2 rfl)) e1 w1 a1 hx r1 f1 hn hro
      | ret =>
        injection ho5 with ho5; subst ho5
        exact hQ _ (hsub _ (List.mem_singleton.2 rfl)) e1 w1 a1 hx r1 f1 hn hro
    · cases hv
  | .cond c x y, hk => by
    have h1 : (chkC Ty pt x && chkC Ty pt y) = true := hk
    rw [Bool.and_eq_true] at h1
    intro F e h a w outs Q r f hv hQ
    replace hv : condM F h (opd F c) (evCodeM Ty call lf pt M x) (evCodeM Ty call lf pt M y) = some outs := hv
    unfold condM at hv
    split at hv
    · rename_i hc'
      exact wpIn_cond_true (opd_run f hc').1 (evCodeM_ok S hc hmo hM h1.1 r f hv hQ)
    · rename_i hc'
      exact wpIn_cond_false (opd_run f hc').1 (evCodeM_ok S hc hmo hM h1.2 r f hv hQ)
    · cases hv
  | .block i c, hk => by
    have h1 : chkC Ty pt c = true := hk
    intro F e h a w outs Q r f hv hQ
    replace hv : blockM i (evCodeM Ty call lf pt M c F h) = some outs := hv
    unfold blockM at hv
    split at hv
    · rename_i l hl
      injection hv with hv; subst hv
      refine wpIn_block (evCodeM_ok S hc hmo hM h1 r f hl fun o ho => ?_)
      have hm := hQ _ (List.mem_map.2 ⟨o, ho, rfl⟩)
      obtain ⟨x1, F1, h2⟩ := o
      intro e1 w1 a1 hx r1 f1 hn hro
      cases x1 with
      | normal => exact hm e1 w1 a1 hx r1 f1 hn hro
      | ret => exact hm e1 w1 a1 hx r1 f1 hn hro
      | exit j =>
        show if j = i then _ else _
        cases hj : Nat.beq j i with
        | true =>
          rw [if_pos (Nat.eq_of_beq_eq_true hj)]
          simp only [hj] at hm
          exact hm e1 w1 a1 hx r1 f1 hn hro
        | false =>
          rw [if_neg (Nat.ne_of_beq_eq_false hj)]
          simp only [hj] at hm
          exact hm e1 w1 a1 hx r1 f1 hn hro
    · cases hv
  | .loop c, hk => by
    intro F e h a w outs Q r f hv hQ
    replace hv : (match mlOf c with
      | some m => regM (.exit m.k) (anyR Ty call lf m 9 F h)
      | none => oneM (evCodeP Ty call lf pt (.loop c) F h)) = some outs := hv
    split at hv
    · rename_i m hm
      unfold regM at hv
      split at hv
      · rename_i l hl
        injection hv with hv; subst hv
        exact wpIn_loop_rounds 9 (anyR_ok S hc hmo (mlOf_ok hm) 9 hl r f fun o ho => hQ (.exit m.k, o.1, o.2) (List.mem_map.2 ⟨o, ho, rfl⟩))
      · cases hv
    · exact oneM_ok (evCodeP_run (lf := lf) S hc hmo hk) r f hv hQ
  | .rangeFunc _ _ _ _, hk => oneM_ok (evCodeP_run (lf := lf) S hc hmo hk)
  | .exit _, hk => oneM_ok (evCodeP_run (lf := lf) S hc hmo hk)
  | .scope c, hk => by
    have h1 : chkC Ty pt c = true := hk
    intro F e h a w outs Q r f hv hQ
    refine wpIn_scope_straight (evCodeM_ok S hc hmo hM h1 r f hv fun o ho => ?_)
    intro e1 w1 a1 hx r1 f1 hn hr
    have := hQ o ho e1 w1 a1 hx r1 f1 hn hr
    obtain ⟨x1, F1, h2⟩ := o
    cases x1 <;> exact this
  | .label _, hk => oneM_ok (evCodeP_run (lf := lf) S hc hmo hk)
  | .goto _, hk => oneM_ok (evCodeP_run (lf := lf) S hc hmo hk)
  | .ret, hk => oneM_ok (evCodeP_run (lf := lf) S hc hmo hk)
  | .refuse _, hk => oneM_ok (evCodeP_run (lf := lf) S hc hmo hk)
theorem runM_ok (K : TyOk P Ty) (S : Snd P Ty call) (hc : CallOk P call) (hm : P.follows .mixedOrders = true) (hD : ∀ g, dno g = true → NoopD P g) (hM : CallMOk P M) {pt : PlT} {f : FuncId} {fn : Func} (hf : P.funcs[f]? = some fn) (hE : Enters P f) :
    ManyOk P f (runM Ty dno call lf pt M fn) := by
  intro B w0 xs e h outs w r hl hv
  refine ⟨hE, ?_⟩
  unfold runM at hv
  split at hv
  · rename_i c hb
    split at hv
    · rename_i hn hchk
      split at hv
      · rename_i l hcl
        refine calls_rd (rr := none) (n := 0) (callsIn_of_wp_marks hf hb trivial (evCodeM_ok S hc hm hM hchk r (start_frame hl (Nat.le_of_ble_eq_true hn)) hcl fun o ho => ?_))
        obtain ⟨o5, ho5, hsub⟩ := joinA_mem hv o ho
        obtain ⟨z, hz, rfl⟩ := some_map ho5
        obtain ⟨v, h'⟩ := z
        have hmem : (v, h') ∈ outs := hsub _ (List.mem_singleton.2 rfl)
        obtain ⟨x, F1, h1⟩ := o
        intro e1 w1 a1 hx r1 f1 hn1 _
        unfold finE at hz
        split at hz
        · cases hz
        · rename_i x2 F2 h2 hno hne
          injection hne with hne
          injection hne with g1 g2; injection g2 with g2 g3; subst g1 g2 g3
          split at hz
          · rename_i h2 hdef
            have key : ∀ (vs : List RV) (u : RV), resE Ty F1 h2 fn.results.toList = some vs → some (u, h2) = some (v, h') → (∀ e1, RV.tr e1 u = oneV (trL e1 vs)) → (∀ n, ltL n vs → RV.lt n u) →
                LeavesInM (rd none) 0 P fn a1.tmps (fun en w' => ∃ p ∈ outs, Gives B w0 e h p.1 p.2 en w') a1.defers .returning w1 := by
              intro vs u hres hu htr hlt
              injection hu with hu
              injection hu with e1 e2; subst e1 e2
              rw [f1.defers]
              refine evDef_run hc hD F1.D r1 f1.dlt hdef fun e2 w2 hx2 r2 hn2 => ?_
              obtain ⟨hr1, hr2⟩ := resE_run (P := P) K r2 (f1.ext hx2 hn2) hres
              have hrr := results_run hr1
              rw [← htr e2] at hrr
              exact ⟨_, hrr, (u, h2), hmem, e2, hx.trans hx2 hn1, r2, Nat.le_trans hn1 hn2, hlt _ hr2, rfl⟩
            have hleave : LeavesInM (rd none) 0 P fn a1.tmps (fun en w' => ∃ p ∈ outs, Gives B w0 e h p.1 p.2 en w') a1.defers .returning w1 := by
              split at hz
              · rename_i u hres
                exact key [u] u hres hz (fun _ => rfl) fun _ h => h.1
              · rename_i vs hno2 hres
                refine key vs (.tup vs) hres hz (fun e1 => ?_) fun _ h => h
                match vs, hno2 with
                | [], _ => rfl
                | [z], hno2 => exact (hno2 z rfl).elim
                | _ :: _ :: _, _ => rfl
              · cases hz
            cases x with
            | exit i => exact (hno i rfl).elim
            | normal => exact hleave
            | ret => exact hleave
          · cases hz
        · rename_i hne; cases hne
      · cases hv
    · cases hv
  · cases hv
end
end Go.Proofs.YtlfljoeafpimpaaGreatDoor
