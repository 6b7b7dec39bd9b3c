/- The evaluator: calls; rounds of loops over functions. -/
import Derived.Test.YtlfljoeafpimpaaGreatDoorEvs
import Derived.Test.YtlfljoeafpimpaaGreatDoorEwh
namespace Go.Proofs.YtlfljoeafpimpaaGreatDoor
open Go.RowKit

section
variable {P : Program} {Ty : Tr TypeInfo} {B : Nat → Prop} {w0 : World} {call : CallE} {lf : Nat} {dno : FuncId → Bool}
/-- a deferred call that does nothing where nobody panics -/
structure NoopD (P : Program) (g : FuncId) : Prop where
  enters : Enters P g
  calls : ∀ (args : Array Value) (w : World), CallsDIn Fence.wide 0 P g args .returning w fun en u w' => (∃ v, en = .returned v) ∧ u = .returning ∧ Below w.heap.size w w'
/-- a world that keeps all that was there -/
theorem RepH.kept {e : Nv} {h : Hp} {w w' : World} (r : RepH B w0 e h w) (hb : Below w.heap.size w w') : RepH B w0 e h w' := by
  refine ⟨r.below.andB hb, fun i o hi => ?_, r.inj, r.env⟩
  obtain ⟨h1, h2, h3, h4⟩ := r.obj i o hi
  refine ⟨h1, h2, ?_, h4⟩
  rw [hb.block _ (r.live hi)]
  exact h3
theorem evDef_run (hc : CallOk P call) (hD : ∀ g, dno g = true → NoopD P g) {fn : Func} {tmps : Array Value} {R : Ending → World → Prop} : ∀ (l : List Dfr) {e : Nv} {h h' : Hp} {w : World}, RepH B w0 e h w → (∀ d ∈ l, Dfr.lt h.nx d) → evDef dno call.df l h = some h' →
    (∀ e' w', Nv.ext h.nx e e' → RepH B w0 e' h' w' → h.nx ≤ h'.nx → ∃ v, (results fn tmps).run P w' = .ok v w' ∧ R (.returned v) w') → LeavesInM (rd none) 0 P fn tmps R (l.map (trD e)) .returning w
  | [], e, h, h', w, r, _, hv, hk => by
    replace hv := Option.some.inj hv; subst hv
    obtain ⟨v, h1, h2⟩ := hk e w (Nv.ext.refl _ _) r (Nat.le_refl _)
    exact ⟨v, h1, h2⟩
  | .mark b :: l, e, h, h', w, r, hlt, hv, hk => by
    replace hv : (match h.at? b with
      | some .dfr => evDef dno call.df l (h.drop b)
      | _ => none) = some h' := hv
    split at hv
    · rename_i hb
      have hblk : w.heap[e.at_ b]? = some (.deferred (some [])) := (r.obj b _ hb).2.2.1
      refine ⟨FrameMode.noConfusion, .inl ⟨e.at_ b, _, rfl, run_takeDeferred hblk, ?_⟩⟩
      exact evDef_run hc hD l (r.dropPut hb _) (fun d hd => hlt d (List.mem_cons_of_mem _ hd)) hv hk
    · cases hv
  | .call g xs cs :: l, e, h, h', w, r, hlt, hv, hk => by
    replace hv : (match dno g with
      | true => evDef dno call.df l h
      | false => match call.df g (xs ++ cs) h with
        | some h1 => evDef dno call.df l h1
        | none => none) = some h' := hv
    have hlt2 : ∀ d ∈ l, Dfr.lt h.nx d := fun d hd => hlt d (List.mem_cons_of_mem _ hd)
    split at hv
    · rename_i hg
      have N := hD g hg
      refine ⟨FrameMode.noConfusion, .inr ⟨(fun h0 => by cases h0), _, _, g, (trL e xs).toArray ++ (trL e cs).toArray, rfl, N.enters.run _ _, fun _ _ => trivial, ?_⟩⟩
      obtain ⟨_, hcl⟩ := N.calls ((trL e xs).toArray ++ (trL e cs).toArray) w
      refine ⟨trivial, fun c ks hm hr => ?_⟩
      obtain ⟨en, u, w', fr, ⟨⟨v, rfl⟩, rfl, hbel⟩, h2⟩ := hcl c ks hm hr
      exact ⟨_, _, w', fr, evDef_run hc hD l (r.kept hbel) hlt2 hv hk, h2⟩
    · split at hv
      · rename_i h1 hdf
        have hlx := hlt _ (List.mem_cons_self ..)
        obtain ⟨hE, hC⟩ := hc.df g (xs ++ cs) e h h1 w r (ltL_mem.2 fun v hv => by
          rcases List.mem_append.1 hv with h1 | h1
          · exact ltL_mem.1 hlx.1 v h1
          · exact ltL_mem.1 hlx.2 v h1) hdf
        have hargs : (trL e (xs ++ cs)).toArray = (trL e xs).toArray ++ (trL e cs).toArray := by rw [trL_app]; simp
        rw [hargs] at hC
        refine ⟨FrameMode.noConfusion, .inr ⟨(fun h0 => by cases h0), _, _, g, (trL e xs).toArray ++ (trL e cs).toArray, rfl, hE.run _ _, fun _ _ => trivial, ?_⟩⟩
        obtain ⟨_, hcl⟩ := hC
        refine ⟨trivial, fun c ks hm hr => ?_⟩
        obtain ⟨en, u, w', fr, ⟨⟨v, rfl⟩, rfl, e1, hx1, r1, hn1⟩, h2⟩ := hcl c ks hm hr
        have hml : l.map (trD e) = l.map (trD e1) := List.map_congr_left fun d hd => (trD_ext hx1 d (hlt2 d hd)).symm
        have key := evDef_run hc hD (fn := fn) (tmps := tmps) (R := R) l r1 (fun d hd => Dfr.lt_mono hn1 d (hlt2 d hd)) hv fun e' w' hx' r' hn' => hk e' w' (hx1.trans hx' hn1) r' (Nat.le_trans hn1 hn')
        rw [← hml] at key
        exact ⟨_, _, w', fr, key, h2⟩
      · cases hv
theorem runE_run (K : TyOk P Ty) (S : Snd P Ty call) (hc : CallOk P call) (hm : P.follows .mixedOrders = true) (hD : ∀ g, dno g = true → NoopD P g) {pt : PlT} {f : FuncId} {fn : Func} (hf : P.funcs[f]? = some fn) (hpt : ∀ c, fn.body = some c → chkC Ty pt c = true) {xs : List RV} {e : Nv} {h h' : Hp} {v : RV} {w : World}
    (r : RepH B w0 e h w) (hl : ltL h.nx xs) (hv : runE Ty dno call lf pt fn xs h = some (v, h')) : Calls P f (trL e xs).toArray w (Gives B w0 e h v h') := by
  unfold runE at hv
  split at hv
  · rename_i c hb
    rw [evCodeP_eq (hpt c hb)] at hv
    split at hv
    · cases hv
    · rename_i hn
      unfold finE at hv
      split at hv
      · cases hv
      · rename_i x F1 h1 hz hne
        split at hv
        · rename_i h2 hdef
          have key : ∀ (vs : List RV) (u : RV), resE Ty F1 h2 fn.results.toList = some vs → some (u, h2) = some (v, h') →
              (∀ e1, RV.tr e1 u = oneV (trL e1 vs)) → (∀ n, ltL n vs → RV.lt n u) → Calls P f (trL e xs).toArray w (Gives B w0 e h v h') := by
            intro vs u hres hu htr hlt
            injection hu with hu
            injection hu with e1 e2; subst e1 e2
            refine calls_rd (rr := none) (n := 0) (callsIn_of_wp_marks hf hb trivial (evCode_run S hc hm c r (start_frame hl (Nat.le_of_ble_eq_true hn)) hne fun e1 w1 a1 hx r1 f1 hn1 _ => ?_))
            have hleave : LeavesInM (rd none) 0 P fn a1.tmps (Gives B w0 e h u h2) a1.defers .returning w1 := by
              rw [f1.defers]
              refine evDef_run hc hD F1.D r1 f1.dlt hdef fun e2 w2 hx2 r2 hn2 => ?_
              obtain ⟨hr1, hr2⟩ := resE_run (P := P) K r2 (f1.ext hx2 hn2) hres
              have hrr := results_run hr1
              rw [← htr e2] at hrr
              exact ⟨_, hrr, e2, hx.trans hx2 hn1, r2, Nat.le_trans hn1 hn2, hlt _ hr2, rfl⟩
            cases x with
            | exit i => exact (hz i rfl).elim
            | normal => exact hleave
            | ret => exact hleave
          split at hv
          · rename_i u hres
            exact key [u] u hres hv (fun _ => rfl) fun _ h => h.1
          · rename_i vs hno hres
            refine key vs (.tup vs) hres hv (fun e1 => ?_) fun _ h => h
            match vs, hno with
            | [], _ => rfl
            | [z], hno => exact (hno z rfl).elim
            | _ :: _ :: _, _ => rfl
          · cases hv
        · cases hv
      · cases hv
  · cases hv
/-- a call put aside -/
theorem runD_run (K : TyOk P Ty) (S : Snd P Ty call) (hc : CallOk P call) (hm : P.follows .mixedOrders = true) {pt : PlT} {f : FuncId} {fn : Func} (hf : P.funcs[f]? = some fn) (hname : (fn.name == "runtime.NumGoroutine") = false) (hpt : ∀ c, fn.body = some c → chkC Ty pt c = true) {xs : List RV} {e : Nv} {h h' : Hp} {w : World}
    (r : RepH B w0 e h w) (hl : ltL h.nx xs) (hv : tryD Ty lf call pt xs h (some fn) = some h') : Enters P f ∧ CallsDIn Fence.wide 0 P f (trL e xs).toArray .returning w (Lasts B w0 e h h') := by
  replace hv : (match fn.body with
    | some c => match Nat.ble xs.length fn.ntmps with
      | true => endD Ty fn.results.toList (evCodeP Ty call lf pt c ⟨fn.ntmps, argsT xs 0 (fullR (.lit undef) (Nat.log2 fn.ntmps + 1)), [], none⟩ h)
      | false => none
    | none => none) = some h' := hv
  split at hv
  · rename_i c hb
    refine ⟨⟨fn, hf, by rw [hb]; rfl, hname⟩, ?_⟩
    rw [evCodeP_eq (hpt c hb)] at hv
    split at hv
    · rename_i hn
      unfold endD at hv
      split at hv
      · cases hv
      · rename_i x F1 h1 hz hne
        split at hv
        · rename_i vs hD hres
          injection hv with hv; subst hv
          have key : c.wpIn Fence.wide 0 P (bodyPost P fn (fun en w' => (∃ v, en = .returned v) ∧ ∃ e', Nv.ext h.nx e e' ∧ RepH B w0 e' h1 w' ∧ h.nx ≤ h1.nx)) { tmps := (trL e xs).toArray ++ Array.replicate (fn.ntmps - (trL e xs).toArray.size) undef, defers := [] } w := by
            refine evCode_run (lf := lf) S hc hm c r (start_frame hl (Nat.le_of_ble_eq_true hn)) hne fun e1 w1 a1 hx r1 f1 hn1 _ => ?_
            obtain ⟨hr1, _⟩ := resE_run (P := P) K r1 f1 hres
            have hrr := results_run hr1
            have hd : a1.defers = [] := by rw [f1.defers, hD]; rfl
            cases x with
            | exit i => exact (hz i rfl).elim
            | normal => exact ⟨hd, _, hrr, ⟨_, rfl⟩, e1, hx, r1, hn1⟩
            | ret => exact ⟨hd, _, hrr, ⟨_, rfl⟩, e1, hx, r1, hn1⟩
          exact (callsDIn_of_wp hf hb trivial key).mono fun en u w' hq => ⟨hq.2.1, hq.1, hq.2.2⟩
        · cases hv
      · cases hv
    · cases hv
  · cases hv
/-! ### a round -/
theorem parsOk_lt : ∀ {ps : List Tmp} {nt : Nat}, parsOk nt ps = true → ∀ t ∈ ps, t < nt
  | [], _, _, t, ht => by cases ht
  | p :: ps, nt, h, t, ht => by
    unfold parsOk at h
    split at h
    · rename_i hb
      rcases List.mem_cons.1 ht with rfl | ht
      · exact Nat.le_of_ble_eq_true hb
      · exact parsOk_lt h t ht
    · cases h
theorem par_tmps {e : Nv} {nx nt d : Nat} (hd : nt ≤ 2 ^ d) : ∀ (ps : List Tmp) (xs : List RV) (T : Tr RV) (A : Array Value), full d T → A.size = nt → (∀ i v, i < nt → getR T i = some v → A[i]? = some (RV.tr e v) ∧ RV.lt nx v) → (∀ t ∈ ps, t < nt) → ltL nx xs →
    full d (parT ps xs T) ∧ ((ps.zip (trL e xs)).foldl (fun tmps (x : Tmp × Value) => tmps.setIfInBounds x.1 x.2) A).size = nt ∧
    ∀ i v, i < nt → getR (parT ps xs T) i = some v → ((ps.zip (trL e xs)).foldl (fun tmps (x : Tmp × Value) => tmps.setIfInBounds x.1 x.2) A)[i]? = some (RV.tr e v) ∧ RV.lt nx v
  | [], xs, T, A, hf, hs, ht, _, _ => by
    have : parT [] xs T = T := by unfold parT; rfl
    rw [this]; exact ⟨hf, hs, ht⟩
  | t :: ps, [], T, A, hf, hs, ht, _, _ => by
    have : parT (t :: ps) [] T = T := by unfold parT; rfl
    rw [this]; exact ⟨hf, hs, ht⟩
  | t :: ps, v :: xs, T, A, hf, hs, ht, hp, hl => by
    have hpar : parT (t :: ps) (v :: xs) T = parT ps xs (putR T t (.leaf v)) := by
      show setR T t (.leaf v) (fun T => parT ps xs T) = _
      rw [setR_eq]
    rw [hpar]
    have htl := hp t (List.mem_cons_self ..)
    refine par_tmps hd ps xs (putR T t (.leaf v)) (A.setIfInBounds t (RV.tr e v)) (full_put d T t v hf) (by rw [Array.size_setIfInBounds]; exact hs) (fun i u hi hu => ?_) (fun q hq => hp q (List.mem_cons_of_mem _ hq)) hl.2
    by_cases hti : t = i
    · subst hti
      rw [getR_put_same d T t v hf] at hu
      injection hu with hu; subst hu
      exact ⟨by rw [Array.getElem?_setIfInBounds_self_of_lt (by rw [hs]; exact htl)], hl.1⟩
    · rw [getR_put_other d T t i v hf (Nat.lt_of_lt_of_le htl hd) (Nat.lt_of_lt_of_le hi hd) hti] at hu
      obtain ⟨h1, h2⟩ := ht i u hi hu
      exact ⟨by rw [Array.getElem?_setIfInBounds_ne hti]; exact h1, h2⟩
theorem evYl_run (S : Snd P Ty call) (hc : CallOk P call) (hm : P.follows .mixedOrders = true) {b : Nat} {xs : List RV} {e : Nv} {h h' : Hp} {v : RV} {w : World} (r : RepH B w0 e h w) (hl : ltL h.nx xs) (hv : evYl Ty call lf b xs h = some (v, h')) :
    ∃ q : Loop, w.heap[e.at_ b]? = some (.loop q) ∧ (trL e xs).toArray.size = q.params.size ∧ RoundIn Fence.wide 0 P (e.at_ b) q.fn (rTmps q (trL e xs).toArray) q.assign q.body w (Gives B w0 e h v h') := by
  unfold evYl at hv
  split at hv
  · rename_i L hb
    split at hv
    · rename_i b1 b2
      obtain ⟨q, hq, hok⟩ := ro_loop r hb
      have hbn : b < h.nx := (r.obj b _ hb).1
      have hlL := (r.obj b _ hb).2.2.2
      have hsz : (trL e xs).toArray.size = q.params.size := by
        have := Nat.eq_of_beq_eq_true b1
        rw [hok.ps, ← this]
        simp [trL_map]
      refine ⟨q, hq, hsz, ?_⟩
      obtain ⟨d, hfd, hnd⟩ := hok.fullT
      obtain ⟨g1, g2, g3⟩ := par_tmps (e := e) (nx := h.nx) hnd L.ps.toList xs L.T q.tmps hfd hok.size (fun i u hi hu => ⟨hok.tmp i u hi hu, hlL i u hi hu⟩) (parsOk_lt b2) hl
      have hrt : rTmps q (trL e xs).toArray = (L.ps.toList.zip (trL e xs)).foldl (fun tmps (x : Tmp × Value) => tmps.setIfInBounds x.1 x.2) q.tmps := by
        unfold rTmps
        rw [hok.ps, ← Array.foldl_toList, Array.toList_zip]
      have f0 : RepF e h.nx ⟨L.nt, parT L.ps.toList xs L.T, [], some b⟩ { tmps := rTmps q (trL e xs).toArray, defers := [] } := by
        rw [hrt]
        exact ⟨g2, ⟨d, g1, hnd⟩, g3, rfl, (fun d hd => by cases hd), fun i hi => by injection hi with hi; subst hi; exact hbn⟩
      unfold midYl at hv
      split at hv
      · rename_i F2 h2 hz
        split at hv
        · rename_i L2 hb2
          split at hv
          · rename_i hst
            unfold endYl at hv
            split at hv
            · rename_i x F3 h4 hz2
              split at hv
              · rename_i L4 hb4
                refine roundIn_of_wpIn trivial ?_
                rw [hok.asg, hok.body]
                refine evCode_run S hc hm L.asg r f0 hz fun e2 w2 a2 hx2 r2 f2 hn2 hr2 => ?_
                have hat2 := (hx2 b hbn).1
                obtain ⟨q2, hq2, hok2⟩ := ro_loop r2 hb2
                rw [hat2] at hq2
                refine ⟨_, run_beginRound hq2 (by rw [hok2.st]; exact hst), ?_⟩
                have r3 := r2.setObj (x := .loop { q2 with state := .busy }) (o' := .lop ⟨L2.nt, L2.T, L2.ps, L2.asg, L2.body, .busy, L2.pend⟩) hb2
                  ⟨_, rfl, rfl, hok2.pend, hok2.ps, hok2.asg, hok2.body, hok2.size, hok2.fullT, hok2.tmp⟩ (r2.obj b _ hb2).2.2.2
                rw [hat2] at r3
                have hfe : F2.fe e2 = Fence.wide.inRound (e.at_ b) := by
                  rw [fe_same hx2 f0.rlt hr2]; rfl
                rw [← hfe]
                refine evCode_run S hc hm L.body r3 f2 hz2 fun e4 w4 a4 hx4 r4 f4 hn4 hr4 => ?_
                have hat4 : e4.at_ b = e.at_ b := by
                  rw [(hx4 b (Nat.lt_of_lt_of_le hbn hn2)).1, hat2]
                obtain ⟨q4, hq4, hok4⟩ := ro_loop r4 hb4
                have fin : ∀ (st : LoopState) (pd : Option Code), RepH B w0 e4 (h4.put b (.lop ⟨L4.nt, L4.T, L4.ps, L4.asg, L4.body, st, pd⟩)) (w4.putObj (e.at_ b) (.loop { q4 with state := st, pending := pd })) := fun st pd => by
                  have r5 := r4.setObj (x := .loop { q4 with state := st, pending := pd }) (o' := .lop ⟨L4.nt, L4.T, L4.ps, L4.asg, L4.body, st, pd⟩) hb4
                    ⟨_, rfl, rfl, rfl, hok4.ps, hok4.asg, hok4.body, hok4.size, hok4.fullT, hok4.tmp⟩ (r4.obj b _ hb4).2.2.2
                  rw [hat4] at r5
                  exact r5
                rw [hat4] at hq4
                have hx := hx2.trans hx4 hn2
                have hle := Nat.le_trans hn2 hn4
                cases x with
                | normal =>
                  injection hv with hv
                  injection hv with e1 e2; subst e1 e2
                  exact ⟨_, _, run_endRound none hq4, e4, hx, fin _ _, hle, trivial, rfl⟩
                | exit i =>
                  injection hv with hv
                  injection hv with e1 e2; subst e1 e2
                  exact ⟨_, _, run_endRound (some (.exit i)) hq4, e4, hx, fin _ _, hle, trivial, rfl⟩
                | ret =>
                  injection hv with hv
                  injection hv with e1 e2; subst e1 e2
                  exact ⟨_, _, run_endRound (some .ret) hq4, e4, hx, fin _ _, hle, trivial, rfl⟩
              · cases hv
            · cases hv
          · cases hv
        · cases hv
      · cases hv
    · cases hv
  · cases hv
/-- an oracle keeps a contract proved by hand -/
def OrcOk (P : Program) (B : Nat → Prop) (w0 : World) (f : FuncId) (g : OrcE) : Prop :=
  ∀ (xs : List RV) (e : Nv) (h : Hp) (v : RV) (h' : Hp) (w : World), RepH B w0 e h w → ltL h.nx xs → g xs h = some (v, h') → Enters P f ∧ Calls P f (trL e xs).toArray w (Gives B w0 e h v h')
theorem evCall_run (K : TyOk P Ty) {Fn : Tr Func} {Pt : Tr PlT} {orc : Tr OrcE} (hPt : ∀ f fn, Tr.get 10 Fn f = some fn → ∀ c, fn.body = some c → chkC Ty (ptOf Pt f) c = true) (hF : ∀ f fn, Tr.get 10 Fn f = some fn → P.funcs[f]? = some fn ∧ (fn.name == "runtime.NumGoroutine") = false)
    (hO : ∀ f g, Tr.get 10 orc f = some g → ∀ B w0, OrcOk P B w0 f g) (hS : ∀ call, CallOk P call → Snd P Ty call) (hm : P.follows .mixedOrders = true) (hD : ∀ g, dno g = true → NoopD P g) {flat : TypeId → Bool} (hfl : FlatOk P flat) : ∀ d, CallOk P (evCall Ty dno flat Fn Pt orc lf d)
  | 0 => ⟨hfl, (fun f xs e h v h' w r hl hv => by cases hv), (fun b xs e h v h' w r hl hv => by cases hv), fun f xs e h h' w r hl hv => by cases hv⟩
  | d + 1 => by
    have ih := evCall_run K hPt hF hO hS hm hD hfl d
    refine ⟨hfl, fun f xs e h v h' w r hl hv => ?_, fun b xs e h v h' w r hl hv => evYl_run (hS _ ih) ih hm r hl hv, fun f xs e h h' w r hl hv => ?_⟩
    rotate_left
    · replace hv : tryD Ty lf (evCall Ty dno flat Fn Pt orc lf d) (ptOf Pt f) xs h (Tr.get 10 Fn f) = some h' := hv
      cases hfn : Tr.get 10 Fn f with
      | none => rw [hfn] at hv; cases hv
      | some fn =>
        rw [hfn] at hv
        obtain ⟨h1, h2⟩ := hF f fn hfn
        exact runD_run K (hS _ ih) ih hm h1 h2 (hPt f fn hfn) r hl hv
    replace hv : tryE Ty dno Fn Pt lf (evCall Ty dno flat Fn Pt orc lf d) f xs h (Tr.get 10 orc f) = some (v, h') := hv
    unfold tryE at hv
    split at hv
    · rename_i g hg
      exact hO f g hg _ _ xs e h v h' w r hl hv
    · split at hv
      · rename_i fn hfn
        obtain ⟨h1, h2⟩ := hF f fn hfn
        have h3 : fn.body.isSome = true := by
          unfold runE at hv
          split at hv
          · rename_i c hb; rw [hb]; rfl
          · cases hv
        exact ⟨⟨fn, h1, h3, h2⟩, runE_run K (hS _ ih) ih hm hD h1 (hPt f fn hfn) r hl hv⟩
      · cases hv
end
end Go.Proofs.YtlfljoeafpimpaaGreatDoor
