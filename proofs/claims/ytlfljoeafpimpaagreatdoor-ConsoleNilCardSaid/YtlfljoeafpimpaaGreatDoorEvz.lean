/- The evaluator: every operation is the machine's. -/
import Derived.Test.YtlfljoeafpimpaaGreatDoorEwd
import Derived.Test.YtlfljoeafpimpaaGreatDoorEvt
namespace Go.Proofs.YtlfljoeafpimpaaGreatDoor
open Go.RowKit

section
variable {P : Program} {Ty : Tr TypeInfo} {B : Nat → Prop} {w0 w : World} {e : Nv} {h h' : Hp} {F : Fr} {a : Act} {o : Oper} {v : RV} {call : CallE}
theorem evBi_run' (K : TyOk P Ty) (r : RepH B w0 e h w) {b : Builtin} {ts : List TypeId} {xs : List RV} (hl : ltL h.nx xs) (hv : evBi Ty h b ts xs = some (v, h')) : BiR P B w0 e h b ts xs w v h' := by
  by_cases hb : b = .append
  · subst hb
    intro ty cs
    unfold evBi at hv
    split at hv
    · rename_i h1; cases h1
    · rename_i t u s x h1
      obtain ⟨e', w', hr, hx, r', hn, hl'⟩ := evAppend_run K r (ty := ty) hl.1 hv
      exact ⟨e', w', run_value hr, hx, r', hn, hl'⟩
    · rename_i h1; cases h1
    · rename_i h1; cases h1
    · rename_i h1; cases h1
    · rename_i h1; cases h1
    · rename_i h1; cases h1
    · rename_i h1; cases h1
    · cases hv
  · by_cases hb' : b = .delete
    · subst hb'
      intro ty cs
      unfold evBi at hv
      split at hv
      · rename_i h1; cases h1
      · rename_i h1; cases h1
      · rename_i h1; cases h1
      · rename_i t ts m k h1
        obtain ⟨h2, hd, hh⟩ := some_map hv
        injection hh with g1 g2; subst g1 g2
        obtain ⟨w', hr, r', hn⟩ := evDel_run (P := P) K r hd (ts := ts) (ty := ty)
        exact ⟨e, w', run_value hr, Nv.ext.refl _ _, r', Nat.le_of_eq hn.symm, trivial⟩
      · rename_i h1; cases h1
      · rename_i h1; cases h1
      · rename_i h1; cases h1
      · rename_i h1; cases h1
      · cases hv
    · exact evBi_run K r hv hb hb'
theorem opBi_run (K : TyOk P Ty) {flat : TypeId → Bool} (hfl : FlatOk P flat) (r : RepH B w0 e h w) {b : Builtin} {ts : List TypeId} {xs : List RV} (hl : ltL h.nx xs) (hv : opBi Ty flat h b ts xs = some (v, h')) : BiR P B w0 e h b ts xs w v h' := by
  unfold opBi at hv
  split at hv
  · rename_i hd
    have hb : b = .delete := by
      cases b <;> first | rfl | cases hd
    subst hb
    intro ty cs
    unfold evBiA at hv
    split at hv
    · obtain ⟨h2, hd2, hh⟩ := some_map hv
      injection hh with g1 g2; subst g1 g2
      obtain ⟨w', hr, r', hn⟩ := evDelA_run (P := P) K hfl r hd2 (ty := ty)
      exact ⟨e, w', run_value hr, Nv.ext.refl _ _, r', Nat.le_of_eq hn.symm, trivial⟩
    · cases hv
  · exact evBi_run' K r hl hv
theorem ltL_app {n : Nat} {a b : List RV} (ha : ltL n a) (hb : ltL n b) : ltL n (a ++ b) := ltL_mem.2 fun v hv => by
  rcases List.mem_append.1 hv with h | h
  · exact ltL_mem.1 ha v h
  · exact ltL_mem.1 hb v h
/-- a call, done -/
theorem call_wp {rr : Option Nat} {f : FuncId} {xs : List RV} (hr : (execOp a.eval o).run P w = .ok (.enter f (trL e xs).toArray) w) (hc : Calls P f (trL e xs).toArray w (Gives B w0 e h v h'))
    {b : Act} (hbb : execOp b.eval o = execOp a.eval o) (next : Act → World → Prop) (Q : Exit → Act → World → Prop) (hn : ∀ e' w', Nv.ext h.nx e e' → RepH B w0 e' h' w' → h.nx ≤ h'.nx → RV.lt h'.nx v → next (b.put o.dst (RV.tr e' v)) w') : o.wpIn (rd rr) 0 P b w next Q := by
  rw [← hbb] at hr
  refine run_wpIn hr (fun d hd => nomatch hd) ?_
  rw [Oper.uponIn_enter]
  refine ⟨(fun h0 => by cases h0), rd_calls (hc.mono fun en w' hg => ?_)⟩
  cases en with
  | returned u =>
    obtain ⟨e', hx, r', hle, hl, rfl⟩ := hg
    exact hn e' w' hx r' hle hl
  | panicked c => exact hg.elim
  | outgrown => exact hg.elim
theorem opCall_wp {rr : Option Nat} (K : TyOk P Ty) (hc : CallOk P call) (r : RepH B w0 e h w) (f : RepF e h.nx F a) {c : Call} (hv : opCall Ty call F h c = some (v, h')) (ho : o.op = .call c)
    {b : Act} (hbb : execOp b.eval o = execOp a.eval o) (next : Act → World → Prop) (Q : Exit → Act → World → Prop) (hn : ∀ e' w', Nv.ext h.nx e e' → RepH B w0 e' h' w' → h.nx ≤ h'.nx → RV.lt h'.nx v → next (b.put o.dst (RV.tr e' v)) w') : o.wpIn (rd rr) 0 P b w next Q := by
  unfold opCall at hv
  split at hv
  · rename_i xs hxs
    obtain ⟨hx1, hx2⟩ := opds_run f hxs
    have hargs : c.args.map a.eval = (trL e xs).toArray := by rw [← hx1, ← Array.toList_map, Array.toArray_toList]
    split at hv
    · rename_i b hb
      exact (bi_call f ho hb hxs (opBi_run K hc.flat r hx2 hv)).wp hbb hn
    · rename_i g hg
      split at hv
      · rename_i u hu
        obtain ⟨he, hlu⟩ := opd_run f hu
        unfold opCallV at hv
        split at hv
        · rename_i q p s
          have hl : ltL h.nx (p ++ (xs ++ s)) := ltL_app hlu.1 (ltL_app hx2 hlu.2)
          obtain ⟨hE, hC⟩ := hc.fn q (p ++ (xs ++ s)) e h v h' w r hl hv
          refine call_wp ?_ hC hbb next Q hn
          unfold execOp
          rw [ho]
          show (do let d ← resolve a.eval c o.type; invoke d.target d.args).run P w = _
          unfold resolve
          simp only [hg, he, RV.tr, Deferred.ofValue, hargs, Sem.run_bind, Sem.run_pure, Result.andThen_ok, invoke]
          rw [hE.run]
          rw [trL_app, trL_app]
          simp
        · rename_i b
          obtain ⟨q, hq, hsz, hR⟩ := hc.yl b xs e h v h' w r hx2 hv
          have hrun : (execOp a.eval o).run P w = .ok (.round (e.at_ b) q.fn (rTmps q (trL e xs).toArray) q.assign q.body) w := by
            unfold execOp
            rw [ho]
            show (do let d ← resolve a.eval c o.type; invoke d.target d.args).run P w = _
            unfold resolve
            simp only [hg, he, RV.tr, Deferred.ofValue, hargs, Sem.run_bind, Sem.run_pure, Result.andThen_ok, invoke]
            simpa [rTmps] using run_yield (P := P) hq hsz
          rw [← hbb] at hrun
          refine run_wpIn hrun (fun d hd => nomatch hd) ?_
          rw [Oper.uponIn_round]
          refine ⟨(fun h0 => by cases h0), ?_⟩
          have hR' : RoundIn (rd rr) 0 P (e.at_ b) q.fn (rTmps q (trL e xs).toArray) q.assign q.body w (Gives B w0 e h v h') := hR
          refine hR'.mono fun en w' hg => ?_
          cases en with
          | returned u =>
            obtain ⟨e', hx, r', hle, hl, rfl⟩ := hg
            exact hn e' w' hx r' hle hl
          | panicked c => exact hg.elim
          | outgrown => exact hg.elim
        · cases hv
      · cases hv
    · rename_i q name hg
      split at hv
      · rename_i t u hu
        obtain ⟨he, hlu⟩ := opd_run f hu
        split at hv
        · rename_i g hm
          have hl : ltL h.nx (u :: xs) := ⟨hlu, hx2⟩
          obtain ⟨hE, hC⟩ := hc.fn g (u :: xs) e h v h' w r hl hv
          refine call_wp ?_ hC hbb next Q hn
          unfold execOp
          rw [ho]
          show (do let d ← resolve a.eval c o.type; invoke d.target d.args).run P w = _
          unfold resolve
          have hme := (methE_run K hm (P.types.size + 99) (RV.tr e u) w).1
          have hd : P.types.size + Made.depth = P.types.size + 99 + 1 := rfl
          simp only [hg, he, RV.tr, hargs, Sem.run_bind, Sem.run_pure, Result.andThen_ok, invoke]
          have ha0 : (#[Value.iface t (RV.tr e u)] ++ (trL e xs).toArray)[0]? = some (Value.iface t (RV.tr e u)) := by simp
          have ha1 : (#[Value.iface t (RV.tr e u)] ++ (trL e xs).toArray).extract 1 (#[Value.iface t (RV.tr e u)] ++ (trL e xs).toArray).size = (trL e xs).toArray := by
            apply Array.ext'
            simp
          simp only [ha0, callMethod, Sem.run_bind, run_program, Result.andThen_ok, ha1]
          rw [hd, hme]
          simp only [Result.andThen_ok]
          rw [hE.run]
          simp [trL]
        · cases hv
      · cases hv
  · cases hv
theorem op_sound (K : TyOk P Ty) (hc : CallOk P call) : OpSound P Ty call := by
  intro B w0 rr w e h h' F a o v r f hv b hbb next Q hn
  unfold evOp at hv
  cases ho : o.op <;> rw [ho] at hv
  case move x => exact (QR.opR r (opMove_run f hv (.inl ho))).wp hbb hn
  case assign x => exact (QR.opR r (opMove_run f hv (.inr ho))).wp hbb hn
  case pick c x y => exact (QR.opR r (opPick_run f hv ho)).wp hbb hn
  case alloc t => exact (opAlloc_run K r hv ho).wp hbb hn
  case box t x => exact (opBox_run r f hv ho).wp hbb hn
  case build t ps => exact (QR.opR r (opBuild_run K f hv ho)).wp hbb hn
  case buildSlice t n ps => exact (opBuildSlice_run K r f hv ho).wp hbb hn
  case insert t m k x => exact (opUpd_run K hc.flat r f hv (.inr ho)).wp hbb hn
  case load t x => exact (QR.opR r (opLoad_run K r f hv ho)).wp hbb hn
  case store t x y => exact (opStore_run K r f hv ho).wp hbb hn
  case nilCheck x => exact (QR.opR r (opNil_run K f hv ho)).wp hbb hn
  case binOp op t x y z => exact (QR.opR r (opBin_run K hc.flat f hv ho)).wp hbb hn
  case unOp op t x => exact (QR.opR r (opUn_run f hv ho)).wp hbb hn
  case convert s d x => exact (opConv_run K r f hv ho).wp hbb hn
  case makeInterface t x => exact (QR.opR r (opIfc_run K f hv ho)).wp hbb hn
  case makeFunc fn x y => exact (QR.opR r (opFunc_run f hv ho)).wp hbb hn
  case makeMap t x => exact (opMap_run r hv ho).wp hbb hn
  case makeSlice t l c => exact (opMkSl_run K r f hv ho).wp hbb hn
  case slice t x lo hi mx => exact (QR.opR r (opSlice_run K r f hv ho)).wp hbb hn
  case fieldAddr t x k => exact (QR.opR r (opFA_run K f hv ho)).wp hbb hn
  case field t x k => exact (QR.opR r (opFV_run K f hv ho)).wp hbb hn
  case indexAddr t x i => exact (QR.opR r (opIA_run K f hv ho)).wp hbb hn
  case index t x i => exact (QR.opR r (opIV_run K f hv ho)).wp hbb hn
  case lookup t m k ok => exact (QR.opR r (opLook_run K hc.flat r f hv ho)).wp hbb hn
  case mapUpdate t m k x => exact (opUpd_run K hc.flat r f hv (.inl ho)).wp hbb hn
  case mapEntry t m k => exact (opMe_run K hc.flat r f hv ho).wp hbb hn
  case entryStore t m s x => exact (opEs_run r f hv ho).wp hbb hn
  case extract x k => exact (QR.opR r (opExt_run f hv ho)).wp hbb hn
  case range t x => exact (opRng_run K r f hv ho).wp hbb hn
  case next x s => exact (opNxt_run r f hv ho).wp hbb hn
  case entry x => exact (opEnt_run r f hv ho).wp hbb hn
  case typeAssert x tx ta ok => exact (QR.opR r (opTA_run K f hv ho)).wp hbb hn
  case call c => exact opCall_wp K hc r f hv ho hbb next Q hn
  all_goals cases hv
theorem quiet_sound (K : TyOk P Ty) (hc : CallOk P call) (r : RepH B w0 e h w) (f : RepF e h.nx F a) (hq : quietK Ty o = true) (hv : evOp Ty call F h o = some (v, h')) : QR P e h a o w v ∧ h' = h := by
  unfold quietK at hq
  unfold evOp at hv
  cases ho : o.op <;> rw [ho] at hv hq
  case move x => exact opMove_run f hv (.inl ho)
  case pick c x y => exact opPick_run f hv ho
  case build t ps => exact opBuild_run K f hv ho
  case load t x => exact opLoad_run K r f hv ho
  case convert s d x =>
    replace hv : opConv Ty F h s d x = some (v, h') := hv
    dsimp only at hq
    have hex : ∀ p, opd F x = some p → (execOp a.eval o) = (do pure (Next.value (← convert s d (RV.tr e p))) : Sem Next) := fun p hp => by
      unfold execOp; rw [ho]
      simp only [(opd_run f hp).1]
    split at hq
    · rename_i ks kd hs hd
      unfold opConv at hv
      split at hv
      · rename_i p hp
        unfold evConv at hv
        rw [hs, hd] at hv
        split at hv <;> rename_i h1 h2 <;> try (cases h1; done)
        · rename_i k n
          injection h2 with h2; injection h2 with h2; subst h2
          injection hv with hv
          injection hv with e1 e2; subst e1 e2
          refine ⟨⟨?_, trivial⟩, rfl⟩
          rw [hex _ hp]
          exact run_value (conv_int K hs hd)
        · cases h2
        · cases hv
      · cases hv
    · rename_i el hs hd
      unfold opConv at hv
      split at hv
      · rename_i p hp
        unfold evConv at hv
        rw [hs, hd] at hv
        split at hv
        · rename_i h1 h2; cases h2
        · injection hv with hv
          injection hv with e1 e2; subst e1 e2
          refine ⟨⟨?_, trivial⟩, rfl⟩
          rw [hex _ hp]
          exact run_value (conv_text K hs hd)
        · rename_i h1 h2; cases h1
        · rename_i el' h1 h2 _
          injection h1 with h1
          injection h1 with h1; subst h1
          split at hv
          · rename_i n hel hn
            split at hv
            · rename_i vs hf
              split at hv
              · rename_i l b1 hb
                injection hv with hv
                injection hv with e1 e2; subst e1 e2
                refine ⟨⟨?_, longV_lt _ _ _⟩, rfl⟩
                rw [hex _ hp, longV_tr e hb]
                exact run_value (conv_text_bytes K r hs hd hel hn hf (Nat.eq_of_beq_eq_true b1) hb)
              · cases hv
            · cases hv
          · cases hv
        · rename_i h2; cases h2
        · rename_i hno _ _ _ _
          exact (hno _ rfl rfl).elim
      · cases hv
    · cases hq
  case nilCheck x => exact opNil_run K f hv ho
  case binOp op t x y z => exact opBin_run K hc.flat f hv ho
  case unOp op t x => exact opUn_run f hv ho
  case makeInterface t x => exact opIfc_run K f hv ho
  case makeFunc fn x y => exact opFunc_run f hv ho
  case slice t x lo hi mx => exact opSlice_run K r f hv ho
  case fieldAddr t x k => exact opFA_run K f hv ho
  case field t x k => exact opFV_run K f hv ho
  case indexAddr t x i => exact opIA_run K f hv ho
  case index t x i => exact opIV_run K f hv ho
  case lookup t m k ok => exact opLook_run K hc.flat r f hv ho
  case extract x k => exact opExt_run f hv ho
  case call c =>
    replace hv : opCall Ty call F h c = some (v, h') := hv
    dsimp only at hq
    unfold opCall at hv
    split at hv
    · rename_i xs hxs
      obtain ⟨hx1, hx2⟩ := opds_run f hxs
      have hargs : c.args.map a.eval = (trL e xs).toArray := by rw [← hx1, ← Array.toList_map, Array.toArray_toList]
      split at hv
      · rename_i b hb
        obtain ⟨cs, hcs⟩ := call_builtin (P := P) (w := w) (a := a) ho hb
        have key : ∀ (hr : ∀ ty cs, (builtin b c.argTypes ty cs (trL e xs).toArray).run P w = .ok (.value (RV.tr e v)) w) (hl : RV.lt h.nx v), QR P e h a o w v := fun hr hl => by
          refine ⟨hcs _ _ ?_, hl⟩
          rw [hargs]
          exact hr _ _
        rw [hb] at hq
        have hnd : isDelA b xs = false := by
          cases b <;> first | rfl | cases hq
        unfold opBi at hv
        rw [hnd] at hv
        replace hv : evBi Ty h b c.argTypes.toList xs = some (v, h') := hv
        unfold evBi at hv
        split at hv
        · rename_i t ts x xs' hts
          obtain ⟨u, hu, hh⟩ := some_map hv
          injection hh with h1 h2; subst h1 h2
          obtain ⟨hr, hl⟩ := evLen_run (P := P) K r hu (ts := ts) (rest := trL e xs') (ty := o.type)
          refine ⟨key (fun ty cs => ?_) hl, rfl⟩
          obtain ⟨hr, hl⟩ := evLen_run (P := P) K r hu (ts := ts) (rest := trL e xs') (ty := ty)
          rw [← hts, Array.toArray_toList] at hr
          exact run_value hr
        · cases hq
        · cases hq
        · cases hq
        · cases hq
        · injection hv with hv
          injection hv with h1 h2; subst h1 h2
          refine ⟨key (fun ty cs => run_value ?_) trivial, rfl⟩
          simp [Builtin.min_, Builtin.min2, trL, RV.tr]
        · injection hv with hv
          injection hv with h1 h2; subst h1 h2
          refine ⟨key (fun ty cs => run_value ?_) trivial, rfl⟩
          simp [Builtin.max_, Builtin.max2, trL, RV.tr]
        · injection hv with hv
          injection hv with h1 h2; subst h1 h2
          refine ⟨key (fun ty cs => run_value ?_) trivial, rfl⟩
          simp [Builtin.max_, Builtin.max2, trL, RV.tr]
        · cases hv
      · rename_i g hg
        rw [hg] at hq
        cases hq
      · rename_i q name hg
        rw [hg] at hq
        cases hq
    · cases hv
  all_goals cases hq
theorem snd (K : TyOk P Ty) (hc : CallOk P call) : Snd P Ty call := ⟨K, op_sound K hc, quiet_sound K hc⟩
end
end Go.Proofs.YtlfljoeafpimpaaGreatDoor
