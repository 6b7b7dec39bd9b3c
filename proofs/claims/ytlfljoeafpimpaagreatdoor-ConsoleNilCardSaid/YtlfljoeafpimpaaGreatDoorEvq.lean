/- The evaluator: code. -/
import Derived.Test.YtlfljoeafpimpaaGreatDoorEwc
namespace Go.Proofs.YtlfljoeafpimpaaGreatDoor
open Go.RowKit

section
variable {P : Program} {Ty : Tr TypeInfo} {B : Nat → Prop} {w0 : World} {call : CallE} {lf : Nat}
def Xt.ex : Xt → Exit
  | .normal => .normal
  | .exit i => .exit i
  | .ret => .ret
/-- what a run of the evaluator promises -/
def Ends (B : Nat → Prop) (w0 : World) (e : Nv) (h : Hp) (F : Fr) (x : Xt) (F' : Fr) (h' : Hp) (Q : Exit → Act → World → Prop) : Prop :=
  ∀ e' w' a', Nv.ext h.nx e e' → RepH B w0 e' h' w' → RepF e' h'.nx F' a' → h.nx ≤ h'.nx → F'.ro = F.ro → Q x.ex a' w'
/-- a piece of code is done as the evaluator does it -/
def CodeOk (P : Program) (B : Nat → Prop) (w0 : World) (c : Code) (g : CodeE) : Prop :=
  ∀ ⦃F F' : Fr⦄ ⦃e : Nv⦄ ⦃h h' : Hp⦄ ⦃a : Act⦄ ⦃w : World⦄ ⦃x : Xt⦄ ⦃Q : Exit → Act → World → Prop⦄, RepH B w0 e h w → RepF e h.nx F a → g F h = some (x, F', h') → Ends B w0 e h F x F' h' Q → c.wpIn (F.fe e) 0 P Q a w
/-- behind an end -/
theorem then_ok {g k : CodeE} {c : Code} {K : Act → World → Prop} (hg : CodeOk P B w0 c g)
    {F F' : Fr} {e : Nv} {h h' : Hp} {a : Act} {w : World} {x : Xt} {Q : Exit → Act → World → Prop} (r : RepH B w0 e h w) (f : RepF e h.nx F a) (hv : thenE k (g F h) = some (x, F', h')) (hQ : Ends B w0 e h F x F' h' Q)
    (hk : ∀ {F1 : Fr} {h1 : Hp} {e1 : Nv} {w1 : World} {a1 : Act}, RepH B w0 e1 h1 w1 → RepF e1 h1.nx F1 a1 → k F1 h1 = some (x, F', h') → Ends B w0 e1 h1 F1 x F' h' Q → F1.fe e1 = F.fe e → K a1 w1) :
    c.wpIn (F.fe e) 0 P (Exit.then K Q) a w := by
  unfold thenE at hv
  split at hv
  · rename_i F1 h1 hz
    refine hg r f hz fun e1 w1 a1 hx r1 f1 hn hr => ?_
    exact hk r1 f1 hv (fun e2 w2 a2 hx2 r2 f2 hn2 hr2 => hQ e2 w2 a2 (hx.trans hx2 hn) r2 f2 (Nat.le_trans hn hn2) (hr2.trans hr)) (fe_same hx f.rlt hr)
  · rename_i hz
    refine hg r f hv fun e1 w1 a1 hx r1 f1 hn hr => ?_
    have := hQ e1 w1 a1 hx r1 f1 hn hr
    cases x with
    | normal => exact (hz _ _ hv).elim
    | exit i => exact this
    | ret => exact this
theorem rounds_ok {c : Code} {g : CodeE} (hg : CodeOk P B w0 c g) : ∀ (n : Nat) {F F' : Fr} {e : Nv} {h h' : Hp} {a : Act} {w : World} {x : Xt} {Q : Exit → Act → World → Prop},
    RepH B w0 e h w → RepF e h.nx F a → loopE g n F h = some (x, F', h') → Ends B w0 e h F x F' h' Q → Code.roundsIn (F.fe e) 0 P c Q n a w
  | 0, _, _, _, _, _, _, _, _, _, _, _, hv, _ => by cases hv
  | n + 1, _, _, _, _, _, _, _, _, _, r, f, hv, hQ => then_ok hg r f hv hQ fun r1 f1 hv1 hQ1 hfe => by rw [← hfe]; exact rounds_ok hg n r1 f1 hv1 hQ1
/-- the record of a new loop -/
theorem lop_ok {F : Fr} {a : Act} {e e' : Nv} {nx n : Nat} (f : RepF e nx F a) (hx : Nv.ext nx e e') (fn : FuncId) (ps : Array Tmp) (asg body : Code) (b d : Nat) :
    RO.ok e' b (some (.loop { state := .ready, pending := none, fn, tmps := a.tmps, params := ps, assign := asg, body, defers := d })) (.lop ⟨F.nt, F.T, ps, asg, body, .ready, none⟩) ∧ (nx ≤ n → RO.lt n (.lop ⟨F.nt, F.T, ps, asg, body, .ready, none⟩)) := by
  refine ⟨⟨_, rfl, rfl, rfl, rfl, rfl, rfl, f.size, f.fullT, fun i v hi hv => ?_⟩, fun hn i v hi hv => ?_⟩
  · obtain ⟨h1, h2⟩ := f.tmp i v hi hv
    rw [RV.tr_ext hx v h2]; exact h1
  · exact RV.lt_mono hn v (f.tmp i v hi hv).2
theorem jumpX_wp {F : Fence} {n : Nat} {Q : Exit → Act → World → Prop} {a : Act} {w : World} {x : Xt} (hQ : Q x.ex a w) : ∀ j : Option Code, jumpX j = some x →
    (match j with
     | none => Q .normal a w
     | some c => c.wpIn F n P Q a w) := by
  intro j hj
  unfold jumpX at hj
  split at hj
  · injection hj with hj; subst hj; exact hQ
  · injection hj with hj; subst hj; exact wpIn_exit hQ
  · injection hj with hj; subst hj; exact wpIn_ret hQ
  · cases hj
theorem trL_app (e : Nv) (a b : List RV) : trL e (a ++ b) = trL e a ++ trL e b := by rw [trL_map, trL_map, trL_map, List.map_append]
/-- the loop's end -/
theorem rangeEnd_ok {F F' : Fr} {h' : Hp} {x : Xt} {l : Nat} {q : Option (RV × Hp)} (hv : rangeEnd F l q = some (x, F', h')) :
    ∃ v h2 L, q = some (v, h2) ∧ h2.at? l = some (.lop L) ∧ L.st ≠ .busy ∧ jumpX L.pend = some x ∧ F = F' ∧ h2.drop l = h' := by
  unfold rangeEnd at hv
  split at hv
  · rename_i v h2
    split at hv
    · rename_i L hl
      split at hv
      · cases hv
      · rename_i hst
        split at hv
        · rename_i y hy
          injection hv with hv
          injection hv with e1 hv; injection hv with e2 e3
          subst e1 e2 e3
          exact ⟨v, h2, L, rfl, hl, hst, hy, rfl, rfl⟩
        · cases hv
    · cases hv
  · cases hv
/-- a name gone, whatever becomes of its block (no cells) -/
theorem RepH.dropPut {e : Nv} {h : Hp} {w : World} (r : RepH B w0 e h w) {i : Nat} {o : RO} (hi : h.at? i = some o) (x : Obj) : RepH B w0 e (h.drop i) (w.putObj (e.at_ i) x) := by
  have hsm := at_small hi
  obtain ⟨hin, hBi, _, _⟩ := r.obj i o hi
  have g : ∀ m y, (h.drop i).at? m = some y → i ≠ m ∧ h.at? m = some y := fun m y hm => by
    by_cases him : i = m
    · subst him
      have : (h.drop i).at? i = none := Tr.get_set_nil HD h.ob i hsm
      rw [this] at hm; cases hm
    · have : (h.drop i).at? m = h.at? m := Tr.get_set_other HD h.ob i m _ hsm him
      rw [this] at hm; exact ⟨him, hm⟩
  refine ⟨⟨r.below.os, r.below.tape, r.below.output, by rw [World.putObj_size]; exact r.below.size, fun k hk hk' => ?_⟩, fun j a hj => ?_, fun j k a c hj hk hjk => ?_, r.env⟩
  · rw [World.putObj_heap_other (fun hh => hk' (by rw [hh] at hk ⊢; exact hBi hk))]; exact r.below.block k hk hk'
  · obtain ⟨hij, hj⟩ := g j a hj
    obtain ⟨h1, h2, h3, h4⟩ := r.obj j a hj
    refine ⟨h1, h2, ?_, h4⟩
    rw [World.putObj_heap_other (fun hh => hij (r.inj i j o a hi hj hh.symm))]
    exact h3
  · exact r.inj j k a c (g j a hj).2 (g k c hk).2 hjk
theorem ro_loop {e : Nv} {h : Hp} {w : World} (r : RepH B w0 e h w) {l : Nat} {L : Lp} (hl : h.at? l = some (.lop L)) : ∃ q : Loop, w.heap[e.at_ l]? = some (.loop q) ∧ L.ok e q := (r.obj l _ hl).2.2.1
/-- what a range over a function asks of the function -/
theorem range_post {F F1 : Fr} {e : Nv} {h h1 : Hp} {a1 : Act} {x : Xt} {l : Nat} {rr : Option Nat} {Q : Exit → Act → World → Prop} {e1 : Nv} {v : RV} {h2 : Hp} {L : Lp}
    (hx1 : Nv.ext h.nx e e1) (hn1 : h.nx ≤ h1.nx) (f1 : RepF e1 h1.nx F1 a1) (hro : F1.ro = F.ro) (hll : l < h1.nx)
    (hl : h2.at? l = some (.lop L)) (hst : L.st ≠ .busy) (hj : jumpX L.pend = some x) (hQ : Ends B w0 e h F x F1 (h2.drop l) Q) (en : Ending) (w3 : World) (hg : Gives B w0 e1 h1 v h2 en w3) :
    rangePost (rd rr) 0 P (e1.at_ l) Q a1 en w3 := by
  cases en with
  | returned u =>
    obtain ⟨e2, hx2, r2, hn2, _, _⟩ := hg
    obtain ⟨lq, hlq, hok⟩ := ro_loop r2 hl
    have hat : e1.at_ l = e2.at_ l := ((hx2 l hll).1).symm
    rw [hat]
    refine ⟨L.pend, _, by rw [run_endLoop hlq (by rw [hok.st]; exact hst), hok.pend], jumpX_wp ?_ _ hj⟩
    exact hQ e2 _ a1 (hx1.trans hx2 hn1) (r2.dropPut hl _) (f1.ext hx2 hn2) (Nat.le_trans hn1 hn2) hro
  | panicked c => exact hg.elim
  | outgrown => exact hg.elim
theorem enter_inner {l₀ : Nat} {r₀ : Loop} {w : World} (h : w.heap[l₀]? = some (.loop r₀)) (fn : FuncId) (tmps : Array Value) (ps : Array Tmp) (assign body : Code) :
    (Instr.enterLoop fn tmps ps assign body (some l₀)).run P w =
      .ok (w.heap.size, []) (w.alloc (.loop { state := .ready, pending := none, fn, tmps, params := ps, assign, body, defers := r₀.defers })) := by
  unfold Instr.enterLoop
  simp only [Sem.run_bind, run_getLoop h, run_newObj_alloc, Result.andThen, Sem.run_pure]
theorem evRange_run (hc : CallOk P call) {g : Operand} {ps : Array Tmp} {asg body : Code} : CodeOk P B w0 (.rangeFunc g ps asg body) (evRange call g ps asg body) := by
  intro F F' e h h' a w x Q r f hv hQ
  unfold evRange at hv
  split at hv
  · rename_i q p s hg
    obtain ⟨heg, hlg⟩ := opd_run f hg
    have hres : ∀ (l : Nat) (W : World), (resolve a.eval (rangeCall g l) 0).run P W = .ok { target := .fn (.func q) (trL e s).toArray, args := (trL e p).toArray ++ #[.func (.yield l) #[] #[]] } W := by
      intro l W
      unfold resolve rangeCall
      simp only [heg, RV.tr, Deferred.ofValue, Sem.run_pure]
      simp [Act.eval]
    split at hv
    · rename_i hro
      split at hv
      · rename_i hr1 hr2
        obtain ⟨v, h2, L, hcall, hl, hst, hj, rfl, rfl⟩ := rangeEnd_ok hv
        have hfe : F.fe e = rd none := by unfold Fr.fe; rw [hro]; rfl
        rw [hfe]
        refine wpIn_rangeFunc fun fn _ => ?_
        -- the two blocks that are laid
        have rA := r.make (o := .dfr) (x := .deferred (some [])) 0 (Hp.room_lt hr1) rfl trivial
        have hxA := Nv.put_ext e h.nx w.heap.size 0
        have fA := f.ext hxA (Nat.le_succ h.nx)
        have hxB := Nv.put_ext (e.put h.nx w.heap.size 0) (h.add .dfr).nx (w.alloc (.deferred (some []))).heap.size 0
        have hlop := lop_ok (n := (h.add .dfr).nx + 1) fA hxB fn ps asg body (h.add .dfr).nx w.heap.size
        have rB := rA.make (o := .lop ⟨F.nt, F.T, ps, asg, body, .ready, none⟩) (x := .loop { state := .ready, pending := none, fn, tmps := a.tmps, params := ps, assign := asg, body, defers := w.heap.size }) 0 (Hp.room_lt hr2) hlop.1 (hlop.2 (Nat.le_succ _))
        have fB := fA.ext hxB (Nat.le_succ _)
        have hxAB : Nv.ext h.nx e ((e.put h.nx w.heap.size 0).put (h.add .dfr).nx (w.alloc (.deferred (some []))).heap.size 0) := hxA.trans hxB (Nat.le_succ _)
        have hlB : ltL ((h.add .dfr).add (.lop ⟨F.nt, F.T, ps, asg, body, .ready, none⟩)).nx (p ++ ([RV.yld (h.nx + 1)] ++ s)) := by
          have hle : h.nx ≤ ((h.add .dfr).add (.lop ⟨F.nt, F.T, ps, asg, body, .ready, none⟩)).nx := Nat.le_trans (Nat.le_succ _) (Nat.le_succ _)
          refine ltL_mem.2 fun y hy => ?_
          rcases List.mem_append.1 hy with hy | hy
          · exact RV.lt_mono hle y (ltL_mem.1 hlg.1 y hy)
          · rcases List.mem_append.1 hy with hy | hy
            · rcases List.mem_singleton.1 hy with rfl
              exact Nat.lt_succ_self _
            · exact RV.lt_mono hle y (ltL_mem.1 hlg.2 y hy)
        obtain ⟨hE, hC⟩ := hc.fn q _ _ _ v h2 _ rB hlB hcall
        have hargs : (trL e p).toArray ++ #[Value.func (.yield (w.heap.size + 1)) #[] #[]] ++ (trL e s).toArray = (trL ((e.put h.nx w.heap.size 0).put (h.add .dfr).nx (w.alloc (.deferred (some []))).heap.size 0) (p ++ ([RV.yld (h.nx + 1)] ++ s))).toArray := by
          have t1 := trL_ext hxAB p hlg.1
          have t2 := trL_ext hxAB s hlg.2
          have hy : RV.tr ((e.put h.nx w.heap.size 0).put (h.add .dfr).nx (w.alloc (.deferred (some []))).heap.size 0) (RV.yld (h.nx + 1)) = Value.func (.yield (w.heap.size + 1)) #[] #[] := by
            simp only [RV.tr, Nv.put, show (h.add .dfr).nx = h.nx + 1 from rfl, if_true, World.size_alloc]
          rw [trL_app, trL_app, t1, t2]
          simp only [trL, hy]
          apply Array.ext'
          simp
        refine ⟨w.heap.size + 1, [{ target := .collected w.heap.size, args := #[] }], _, _, _, q, (trL e p).toArray ++ #[Value.func (.yield (w.heap.size + 1)) #[] #[]] ++ (trL e s).toArray, _, run_enterLoop_outer fn a.tmps ps asg body, hres _ _, fun _ _ => trivial, hE.run _ _, (fun h0 => by cases h0), ?_⟩
        · refine rd_calls ?_
          have hC' := hC.mono fun en w3 hg => range_post (P := P) (rr := none) (F := F) (F1 := ⟨F.nt, F.T, .mark h.nx :: F.D, none⟩) (a1 := { a with defers := [{ target := .collected w.heap.size, args := #[] }] ++ a.defers })
            (l := h.nx + 1) (x := x) (Q := Q) hxAB (Nat.le_trans (Nat.le_succ _) (Nat.le_succ _)) ?_ hro.symm (Nat.lt_succ_self _) hl hst hj hQ en w3 hg
          · rw [hargs]
            have hat : ((e.put h.nx w.heap.size 0).put (h.add .dfr).nx (w.alloc (.deferred (some []))).heap.size 0).at_ (h.nx + 1) = w.heap.size + 1 := by
              simp only [Nv.put, show (h.add .dfr).nx = h.nx + 1 from rfl, if_true, World.size_alloc]
            rw [hat] at hC'
            exact hC'
          · refine ⟨fB.size, fB.fullT, fB.tmp, ?_, fun d hd => ?_, fun b hb => nomatch hb⟩
            · show [_] ++ a.defers = _
              rw [fB.defers, List.map_cons, List.singleton_append]
              congr 1
              simp only [trD, Nv.put, show (h.add .dfr).nx = h.nx + 1 from rfl, show ¬ (h.nx = h.nx + 1) from by omega, if_true, if_false]
            · rcases List.mem_cons.1 hd with rfl | hd
              · exact Nat.lt_trans (Nat.lt_succ_self _) (Nat.lt_succ_self _)
              · exact fB.dlt d hd
      · cases hv
    · rename_i l0 hro
      split at hv
      · rename_i L0 hl0 hr1
        obtain ⟨v, h2, L, hcall, hl, hst, hj, rfl, rfl⟩ := rangeEnd_ok hv
        obtain ⟨lq0, hlq0, _⟩ := ro_loop r hl0
        have hfe : F.fe e = rd (some (e.at_ l0)) := by unfold Fr.fe; rw [hro]; rfl
        rw [hfe]
        refine wpIn_rangeFunc fun fn _ => ?_
        have hxB := Nv.put_ext e h.nx w.heap.size 0
        have hlop := lop_ok (n := h.nx + 1) f hxB fn ps asg body h.nx lq0.defers
        have rB := r.make (o := .lop ⟨F.nt, F.T, ps, asg, body, .ready, none⟩) (x := .loop { state := .ready, pending := none, fn, tmps := a.tmps, params := ps, assign := asg, body, defers := lq0.defers }) 0 (Hp.room_lt hr1) hlop.1 (hlop.2 (Nat.le_succ _))
        have fB := f.ext hxB (Nat.le_succ _)
        have hlB : ltL (h.add (.lop ⟨F.nt, F.T, ps, asg, body, .ready, none⟩)).nx (p ++ ([RV.yld h.nx] ++ s)) := by
          have hle : h.nx ≤ (h.add (.lop ⟨F.nt, F.T, ps, asg, body, .ready, none⟩)).nx := Nat.le_succ _
          refine ltL_mem.2 fun y hy => ?_
          rcases List.mem_append.1 hy with hy | hy
          · exact RV.lt_mono hle y (ltL_mem.1 hlg.1 y hy)
          · rcases List.mem_append.1 hy with hy | hy
            · rcases List.mem_singleton.1 hy with rfl
              exact Nat.lt_succ_self _
            · exact RV.lt_mono hle y (ltL_mem.1 hlg.2 y hy)
        obtain ⟨hE, hC⟩ := hc.fn q _ _ _ v h2 _ rB hlB hcall
        have hargs : (trL e p).toArray ++ #[Value.func (.yield w.heap.size) #[] #[]] ++ (trL e s).toArray = (trL (e.put h.nx w.heap.size 0) (p ++ ([RV.yld h.nx] ++ s))).toArray := by
          have t1 := trL_ext hxB p hlg.1
          have t2 := trL_ext hxB s hlg.2
          have hy : RV.tr (e.put h.nx w.heap.size 0) (RV.yld h.nx) = Value.func (.yield w.heap.size) #[] #[] := by
            simp only [RV.tr, Nv.put, if_true]
          rw [trL_app, trL_app, t1, t2]
          simp only [trL, hy]
          apply Array.ext'
          simp
        refine ⟨w.heap.size, [], _, _, _, q, (trL e p).toArray ++ #[Value.func (.yield w.heap.size) #[] #[]] ++ (trL e s).toArray, _, enter_inner hlq0 fn a.tmps ps asg body, hres _ _, fun _ _ => trivial, hE.run _ _, (fun h0 => by cases h0), ?_⟩
        · refine rd_calls ?_
          have hC' := hC.mono fun en w3 hg => range_post (P := P) (rr := some (e.at_ l0)) (F := F) (F1 := F) (a1 := a)
            (l := h.nx) (x := x) (Q := Q) hxB (Nat.le_succ _) fB rfl (Nat.lt_succ_self _) hl hst hj hQ en w3 hg
          rw [hargs]
          have hat : (e.put h.nx w.heap.size 0).at_ h.nx = w.heap.size := by simp only [Nv.put, if_true]
          rw [hat] at hC'
          exact hC'
      · cases hv
  · cases hv
theorem evCode_run (S : Snd P Ty call) (hc : CallOk P call) (hm : P.follows .mixedOrders = true) : ∀ c : Code, CodeOk P B w0 c (evCode Ty call lf c)
  | .skip => by
    intro F F' e h h' a w x Q r f hv hQ
    replace hv := Option.some.inj hv
    injection hv with h1 h2; injection h2 with h2 h3
    subst h1 h2 h3
    exact wpIn_skip (hQ _ _ _ (Nv.ext.refl _ _) r f (Nat.le_refl _) rfl)
  | .region id ops d => by
    intro F F' e h h' a w x Q r f hv hQ
    replace hv : regE (evRe Ty call ops d F h) = some (x, F', h') := hv
    unfold regE at hv
    split at hv
    · rename_i F1 h1 hz
      replace hv := Option.some.inj hv
      injection hv with h1 h2; injection h2 with h2 h3
      subst h1 h2 h3
      cases d with
      | false =>
        refine wpIn_region_list ?_
        have := evOps_run S.op r f hz (Q := Q) fun e' w' a' hx r' f' hn hr => hQ e' w' a' hx r' f' hn hr
        simpa only [Array.toArray_toList] using this
      | true => exact evDr_run S hm r f hz fun e' w' a' hx r' f' hn hr => hQ e' w' a' hx r' f' hn hr
    · cases hv
  | .seq x y => fun _ _ _ _ _ _ _ _ _ r f hv hQ => wpIn_seq (then_ok (evCode_run S hc hm x) r f hv hQ fun r1 f1 hv1 hQ1 hfe => by rw [← hfe]; exact evCode_run S hc hm y r1 f1 hv1 hQ1)
  | .cond c x y => by
    intro F F' e h h' a w z Q r f hv hQ
    replace hv : condE F h (opd F c) (evCode Ty call lf x) (evCode Ty call lf y) = some (z, F', h') := hv
    unfold condE at hv
    split at hv
    · rename_i hc'
      exact wpIn_cond_true (opd_run f hc').1 (evCode_run S hc hm x r f hv hQ)
    · rename_i hc'
      exact wpIn_cond_false (opd_run f hc').1 (evCode_run S hc hm y r f hv hQ)
    · cases hv
  | .block i c => by
    intro F F' e h h' a w z Q r f hv hQ
    replace hv : blockE i (evCode Ty call lf c F h) = some (z, F', h') := hv
    refine wpIn_block ?_
    unfold blockE at hv
    split at hv
    · rename_i j F1 h1 hz
      split at hv
      · rename_i hj
        replace hv := Option.some.inj hv
        injection hv with h1 h2; injection h2 with h2 h3
        subst h1 h2 h3
        refine evCode_run S hc hm c r f hz fun e1 w1 a1 hx r1 f1 hn hr => ?_
        show if j = i then _ else _
        rw [if_pos (Nat.eq_of_beq_eq_true hj)]
        exact hQ e1 w1 a1 hx r1 f1 hn hr
      · rename_i hj
        replace hv := Option.some.inj hv
        injection hv with h1 h2; injection h2 with h2 h3
        subst h1 h2 h3
        refine evCode_run S hc hm c r f hz fun e1 w1 a1 hx r1 f1 hn hr => ?_
        show if j = i then _ else _
        rw [if_neg (Nat.ne_of_beq_eq_false hj)]
        exact hQ e1 w1 a1 hx r1 f1 hn hr
    · rename_i hz
      refine evCode_run S hc hm c r f hv fun e1 w1 a1 hx r1 f1 hn hr => ?_
      have := hQ e1 w1 a1 hx r1 f1 hn hr
      cases z with
      | normal => exact this
      | exit j => exact (hz _ _ _ hv).elim
      | ret => exact this
  | .loop c => fun _ _ _ _ _ _ _ _ _ r f hv hQ => wpIn_loop_rounds lf (rounds_ok (evCode_run S hc hm c) lf r f hv hQ)
  | .rangeFunc _ _ _ _ => fun _ _ _ _ _ _ _ _ _ r f hv hQ => evRange_run hc r f hv hQ
  | .exit i => by
    intro F F' e h h' a w x Q r f hv hQ
    replace hv := Option.some.inj hv
    injection hv with h1 h2; injection h2 with h2 h3
    subst h1 h2 h3
    exact wpIn_exit (hQ _ _ _ (Nv.ext.refl _ _) r f (Nat.le_refl _) rfl)
  | .scope c => by
    intro F F' e h h' a w z Q r f hv hQ
    refine wpIn_scope_straight (evCode_run S hc hm c r f hv fun e1 w1 a1 hx r1 f1 hn hr => ?_)
    have := hQ e1 w1 a1 hx r1 f1 hn hr
    cases z <;> exact this
  | .label _ => by
    intro F F' e h h' a w x Q r f hv hQ
    replace hv := Option.some.inj hv
    injection hv with h1 h2; injection h2 with h2 h3
    subst h1 h2 h3
    exact wpIn_label (hQ _ _ _ (Nv.ext.refl _ _) r f (Nat.le_refl _) rfl)
  | .goto _ => fun _ _ _ _ _ _ _ _ _ _ _ hv _ => by cases hv
  | .ret => by
    intro F F' e h h' a w x Q r f hv hQ
    replace hv := Option.some.inj hv
    injection hv with h1 h2; injection h2 with h2 h3
    subst h1 h2 h3
    exact wpIn_ret (hQ _ _ _ (Nv.ext.refl _ _) r f (Nat.le_refl _) rfl)
  | .refuse _ => fun _ _ _ _ _ _ _ _ _ _ _ hv _ => by cases hv
end
end Go.Proofs.YtlfljoeafpimpaaGreatDoor
