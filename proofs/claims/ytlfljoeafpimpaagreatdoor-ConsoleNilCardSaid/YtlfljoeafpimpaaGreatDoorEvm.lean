/- The evaluator: slice expressions. The evaluator: built-in functions: len, min, max. The evaluator: calls of built-in functions: len, min, max, copy. -/
import Derived.Test.YtlfljoeafpimpaaGreatDoorEvj
namespace Go.Proofs.YtlfljoeafpimpaaGreatDoor
open Go.RowKit

section
variable {P : Program} {Ty : Tr TypeInfo} {B : Nat → Prop} {w0 w : World} {e : Nv} {h h' : Hp} {F : Fr} {a : Act} {o : Oper} {v : RV}
theorem intN_tr {x : RV} {n : Nat} (hx : intN x = some n) : ∃ k, x = .lit (.int k (n : Int)) := by
  unfold intN at hx
  split at hx
  · rename_i k m
    injection hx with hx; subst hx
    exact ⟨k, rfl⟩
  · cases hx
theorem bound_run {x : RV} {n y : Nat} (hx : intN x = some n) (hn : n ≤ y) (c : BoundsCode) (w : World) : (Instr.sliceBound (RV.tr e x) y c).run P w = .ok n w := by
  obtain ⟨k, rfl⟩ := intN_tr hx
  have h1 : (0 : Int) ≤ (n : Int) ∧ (n : Int) ≤ (y : Int) := ⟨by omega, by omega⟩
  simp only [Instr.sliceBound, RV.tr, asIntOf, Sem.run_bind, Sem.run_pure, Result.andThen_ok, h1, and_self, if_true, Int.toNat_natCast]
theorem bounds_run {s : Bool} {len cap l hi' m : Nat} {lo hi mx : Option RV} (hb : bounds len cap lo hi mx = some (l, hi', m)) (w : World) :
    (Instr.sliceBounds s len cap (lo.map (RV.tr e)) (hi.map (RV.tr e)) (mx.map (RV.tr e))).run P w = .ok (l, hi', m) w ∧ l ≤ hi' ∧ hi' ≤ m ∧ m ≤ cap := by
  unfold bounds at hb
  split at hb
  · cases hb
  · rename_i hno
    split at hb
    · cases hb
    · rename_i m' hm
      split at hb
      · cases hb
      · rename_i h1 hh
        split at hb
        · cases hb
        · rename_i l' hl
          split at hb
          · rename_i b1 b2 b3
            injection hb with hb
            injection hb with e1 hb; injection hb with e2 e3
            subst e1 e2 e3
            have b1 := Nat.le_of_ble_eq_true b1
            have b2 := Nat.le_of_ble_eq_true b2
            have b3 := Nat.le_of_ble_eq_true b3
            refine ⟨?_, b3, b2, b1⟩
            cases mx with
            | none =>
              obtain rfl : cap = m' := by simpa [optN] using hm
              cases hi with
              | none =>
                obtain rfl : len = h1 := by simpa [optN] using hh
                cases lo with
                | none =>
                  obtain rfl : 0 = l' := by simpa [optN] using hl
                  rfl
                | some lo => simp only [Instr.sliceBounds, Option.map_none, Option.map_some, Sem.run_bind, Sem.run_pure, Result.andThen_ok, bound_run (P := P) (e := e) hl b3]
              | some hi => cases lo with
                | none =>
                  obtain rfl : 0 = l' := by simpa [optN] using hl
                  simp only [Instr.sliceBounds, Option.map_none, Option.map_some, Sem.run_bind, Sem.run_pure, Result.andThen_ok, bound_run (P := P) (e := e) hh b2]
                | some lo => simp only [Instr.sliceBounds, Option.map_none, Option.map_some, Sem.run_bind, Sem.run_pure, Result.andThen_ok, bound_run (P := P) (e := e) hl b3, bound_run (P := P) (e := e) hh b2]
            | some mx => cases hi with
              | none => exact (hno _ rfl rfl).elim
              | some hi => cases lo with
                | none =>
                  obtain rfl : 0 = l' := by simpa [optN] using hl
                  simp only [Instr.sliceBounds, Option.map_none, Option.map_some, Sem.run_bind, Sem.run_pure, Result.andThen_ok, bound_run (P := P) (e := e) hh b2, bound_run (P := P) (e := e) hm b1]
                | some lo => simp only [Instr.sliceBounds, Option.map_some, Sem.run_bind, Sem.run_pure, Result.andThen_ok, bound_run (P := P) (e := e) hl b3, bound_run (P := P) (e := e) hh b2, bound_run (P := P) (e := e) hm b1]
          · cases hb
theorem add_moved (b o l m s : Nat) : (if m = l then (⟨b, o, none⟩ : Addr) else (⟨b, o, none⟩ : Addr).add (l * s)) = ⟨b, moved o l m s, none⟩ := by
  unfold moved
  cases hb : Nat.beq m l with
  | true => rw [if_pos (Nat.eq_of_beq_eq_true hb)]
  | false =>
    rw [if_neg (fun h => by subst h; rw [Nat.beq_refl] at hb; cases hb)]
    unfold Addr.add
    split
    · rename_i h0; rw [h0]; rfl
    · rfl
theorem roomy_cap (r : RepH B w0 e h w) {b d k : Nat} (hr : roomy h b d k = true) : d + k ≤ e.cap b := by
  unfold roomy at hr
  split at hr
  · rename_i cs t s hi
    obtain ⟨_, _, hok, _⟩ := r.obj b _ hi
    obtain ⟨sp, _, _, hc, _⟩ := hok
    have := Nat.le_of_ble_eq_true hr
    have hc2 : lenS cs + sp.length = e.cap b * (s + 1) := hc
    have h2 : (d + k) * (s + 1) ≤ e.cap b * (s + 1) := by omega
    exact Nat.le_of_mul_le_mul_right h2 (Nat.succ_pos s)
  · cases hr
theorem bounds_cap {len n c l k m : Nat} {lo hi : Option RV} (hb : bounds len n lo hi none = some (l, k, m)) (hc : k ≤ c) : bounds len c lo hi none = some (l, k, c) := by
  unfold bounds at hb ⊢
  simp only [optN] at hb ⊢
  split at hb
  · cases hb
  · rename_i h1 hh
    split at hb
    · cases hb
    · rename_i l' hl
      split at hb
      · rename_i b1 b2 b3
        injection hb with hb
        injection hb with e1 hb; injection hb with e2 e3
        subst e1 e2 e3
        have g1 : Nat.ble c c = true := Nat.ble_eq_true_of_le (Nat.le_refl _)
        have g2 : Nat.ble h1 c = true := Nat.ble_eq_true_of_le hc
        simp only [g1, g2, b3]
      · cases hb
theorem add_off (b o k : Nat) : (⟨b, o, none⟩ : Addr).add k = ⟨b, o + k, none⟩ := by
  unfold Addr.add
  split
  · rename_i h0; rw [h0]; rfl
  · rfl
theorem bounds_wide {len n c l k m : Nat} {lo hi mx : Option RV} (hb : bounds len n lo hi mx = some (l, k, m)) (hc : n ≤ c) (hmx : mx.isSome = true := by rfl) : bounds len c lo hi mx = some (l, k, m) := by
  cases mx with
  | none => cases hmx
  | some x =>
    unfold bounds at hb ⊢
    split at hb
    · cases hb
    · simp only [optN] at hb ⊢
      split at hb
      · cases hb
      · rename_i m1 hm1
        split at hb
        · cases hb
        · rename_i h1 hh
          split at hb
          · cases hb
          · rename_i l' hl
            split at hb
            · rename_i b1 b2 b3
              injection hb with hb
              injection hb with e1 hb; injection hb with e2 e3
              subst e1 e2 e3
              have g1 : Nat.ble m1 c = true := Nat.ble_eq_true_of_le (Nat.le_trans (Nat.le_of_ble_eq_true b1) hc)
              simp only [g1, b2, b3]
            · cases hb
theorem evSlice_run (K : TyOk P Ty) (r : RepH B w0 e h w) {t : TypeId} {x v : RV} {lo hi mx : Option RV} (hl : RV.lt h.nx x) (hv : evSlice Ty h t x lo hi mx = some v) :
    (Instr.sliceAt t (RV.tr e x) (lo.map (RV.tr e)) (hi.map (RV.tr e)) (mx.map (RV.tr e))).run P w = .ok (RV.tr e v) w ∧ RV.lt h.nx v := by
  unfold evSlice at hv
  split at hv
  · rename_i n el hu
    split at hv
    · rename_i b o s l k m hs hb
      injection hv with hv; subst hv
      refine ⟨?_, hl⟩
      simp only [Instr.sliceAt, Sem.run_bind, K.undRun hu, Result.andThen_ok, RV.tr, Instr.sureAddr, Sem.run_pure, (bounds_run (P := P) (e := e) (s := false) hb w).1, K.size hs, add_moved]
    · cases hv
  · rename_i el hu
    split at hv
    · rename_i s hs
      split at hv
      · rename_i b o n c
        split at hv
        · rename_i l k m hb
          injection hv with hv; subst hv
          refine ⟨?_, hl⟩
          simp only [Instr.sliceAt, Instr.slice, Sem.run_bind, K.undRun hu, Result.andThen_ok, RV.tr, Sem.run_pure, (bounds_run (P := P) (e := e) (s := true) hb w).1, K.size hs, Option.map_some, ← add_moved]
          split <;> rfl
        · cases hv
      · rename_i b o n d
        split at hv
        · split at hv
          · rename_i l k m hb
            split at hv
            · rename_i h2 h1
              injection hv with hv; subst hv
              refine ⟨?_, hl⟩
              have hc := roomy_cap r h2
              have hlt := Nat.le_of_ble_eq_true h1
              have hb' := bounds_cap hb (show k ≤ e.cap b - d by omega)
              have hne : ¬ (e.cap b - d = l) := by omega
              have hadd := add_off (e.at_ b) o (l * s)
              simp only [Instr.sliceAt, Instr.slice, Sem.run_bind, K.undRun hu, Result.andThen_ok, RV.tr, Sem.run_pure, (bounds_run (P := P) (e := e) (s := true) hb' w).1, K.size hs, Option.map_some, if_neg hne, hadd, Nat.sub_sub]
            · rename_i h2 h1
              have hc := roomy_cap r h2
              have hb' := bounds_cap hb (show k ≤ e.cap b - d by omega)
              obtain ⟨hbr, hlk, _, _⟩ := bounds_run (P := P) (e := e) (s := true) hb' w
              have hkl : k ≤ l := by
                have := not_ble h1
                omega
              obtain rfl : l = k := Nat.le_antisymm hlk hkl
              split at hv
              · injection hv with hv; subst hv
                refine ⟨?_, hl⟩
                have hadd : (⟨e.at_ b, o, none⟩ : Addr).add (0 * s) = ⟨e.at_ b, o, none⟩ := by
                  unfold Addr.add
                  rw [if_pos (Nat.zero_mul s)]
                simp only [Instr.sliceAt, Instr.slice, Sem.run_bind, K.undRun hu, Result.andThen_ok, RV.tr, Sem.run_pure, hbr, K.size hs, Option.map_some, hadd, ite_self, Nat.sub_zero]
              · injection hv with hv; subst hv
                refine ⟨?_, hl⟩
                have hadd := add_off (e.at_ b) o (l * s)
                by_cases hcl : e.cap b = d + l
                · have hcl' : e.cap b - d = l := by omega
                  simp only [Instr.sliceAt, Instr.slice, Sem.run_bind, K.undRun hu, Result.andThen_ok, RV.tr, Sem.run_pure, hbr, K.size hs, Option.map_some, if_pos hcl, if_pos hcl', Nat.sub_sub, Nat.sub_self]
                · have hcl' : ¬ (e.cap b - d = l) := by omega
                  simp only [Instr.sliceAt, Instr.slice, Sem.run_bind, K.undRun hu, Result.andThen_ok, RV.tr, Sem.run_pure, hbr, K.size hs, Option.map_some, if_neg hcl, if_neg hcl', hadd, Nat.sub_sub, Nat.sub_self]
            · cases hv
          · cases hv
        · rename_i x
          split at hv
          · rename_i m' hm'
            split at hv
            · rename_i l k m h2 hb
              injection hv with hv; subst hv
              refine ⟨?_, hl⟩
              have hc := roomy_cap r h2
              have hb' := bounds_wide hb (show m' ≤ e.cap b - d by omega)
              have hbr := (bounds_run (P := P) (e := e) (s := true) hb' w).1
              simp only [Option.map_some] at hbr
              simp only [Instr.sliceAt, Instr.slice, Sem.run_bind, K.undRun hu, Result.andThen_ok, RV.tr, Sem.run_pure, hbr, K.size hs, Option.map_some, ← add_moved]
              split <;> rfl
            · cases hv
          · cases hv
      · rename_i b o q d
        split at hv
        · rename_i m hb
          injection hv with hv; subst hv
          refine ⟨?_, hl⟩
          have hb' := bounds_cap (c := e.cap b - d) hb (Nat.zero_le _)
          have hadd : ∀ z, (⟨e.at_ b, z, none⟩ : Addr).add (0 * s) = ⟨e.at_ b, z, none⟩ := fun z => by
            unfold Addr.add
            rw [if_pos (Nat.zero_mul s)]
          simp only [Instr.sliceAt, Instr.slice, Sem.run_bind, K.undRun hu, Result.andThen_ok, RV.tr, Sem.run_pure, (bounds_run (P := P) (e := e) (s := true) hb' w).1, K.size hs, Option.map_some, hadd, ite_self, Nat.sub_zero]
        · cases hv
      · rename_i n c
        split at hv
        · rename_i l k m hb
          injection hv with hv; subst hv
          refine ⟨?_, trivial⟩
          simp only [Instr.sliceAt, Instr.slice, Sem.run_bind, K.undRun hu, Result.andThen_ok, RV.tr, Sem.run_pure, (bounds_run (P := P) (e := e) (s := true) hb w).1, K.size hs, Option.map_none, ite_self]
        · cases hv
      · cases hv
    · cases hv
  · rename_i hu
    split at hv
    · rename_i s
      split at hv
      · rename_i l k m hb
        injection hv with hv; subst hv
        refine ⟨?_, trivial⟩
        have hbr := (bounds_run (P := P) (e := e) (s := false) hb w).1
        simp only [Option.map_none] at hbr
        simp only [Instr.sliceAt, Instr.slice, Sem.run_bind, K.undRun hu, Result.andThen_ok, RV.tr, Sem.run_pure, Option.map_none, Option.isSome_none, Bool.false_eq_true, if_false, hbr]
      · cases hv
    · cases hv
  · cases hv
theorem optR_run (f : RepF e h.nx F a) {x : Option Operand} {v : Option RV} (hv : optR F x = some v) : x.map a.eval = v.map (RV.tr e) := by
  cases x with
  | none => injection hv with hv; subst hv; rfl
  | some x =>
    obtain ⟨y, hy, hh⟩ := some_map hv
    subst hh
    simp only [Option.map_some, (opd_run f hy).1]
theorem opSlice_run (K : TyOk P Ty) (r : RepH B w0 e h w) (f : RepF e h.nx F a) {t : TypeId} {x : Operand} {lo hi mx : Option Operand} (hv : opSlice Ty F h t x lo hi mx = some (v, h')) (ho : o.op = .slice t x lo hi mx) : QR P e h a o w v ∧ h' = h := by
  unfold opSlice at hv
  split at hv
  · rename_i p hp
    split at hv
    · rename_i l1 l2 l3 h1 h2 h3
      obtain ⟨hz, rfl⟩ := with_some hv
      obtain ⟨he, hl⟩ := opd_run f hp
      obtain ⟨hr, hl'⟩ := evSlice_run K r hl hz
      refine ⟨⟨?_, hl'⟩, rfl⟩
      unfold execOp; rw [ho]
      simp only [he, optR_run f h1, optR_run f h2, optR_run f h3]
      exact run_value hr
    · cases hv
  · cases hv
end
end Go.Proofs.YtlfljoeafpimpaaGreatDoor
namespace Go.Proofs.YtlfljoeafpimpaaGreatDoor
open Go.RowKit

section
variable {P : Program} {Ty : Tr TypeInfo} {B : Nat → Prop} {w0 w : World} {e : Nv} {h h' : Hp} {F : Fr} {a : Act} {o : Oper} {v : RV}
/-- a built-in function is called -/
theorem call_builtin {c : Call} {b : Builtin} (ho : o.op = .call c) (hc : c.callee = .builtin b) :
    ∃ cs, ∀ u w', (builtin b c.argTypes o.type cs (c.args.map a.eval)).run P w = .ok (.value u) w' → (execOp a.eval o).run P w = .ok (.value u) w' := by
  refine ⟨c.args.map fun | .const _ => true | _ => false, fun u w' hr => ?_⟩
  unfold execOp; rw [ho]
  show (do let d ← resolve a.eval c o.type; invoke d.target d.args).run P w = _
  unfold resolve
  simp only [hc]
  exact hr
theorem evLen_run (K : TyOk P Ty) (r : RepH B w0 e h w) {t : TypeId} {x : RV} (hv : evLen Ty h t x = some v) {ts : List TypeId} {rest : List Value} {ty : TypeId} :
    (Builtin.len_ (t :: ts).toArray ty (RV.tr e x :: rest).toArray).run P w = .ok (RV.tr e v) w ∧ RV.lt h.nx v := by
  unfold evLen at hv
  split at hv
  · rename_i n el hu
    injection hv with hv; subst hv
    refine ⟨?_, trivial⟩
    simp [Builtin.len_, K.undRun hu, RV.tr, goInt, intV]
  · rename_i u hu
    split at hv
    · rename_i n el hu2
      injection hv with hv; subst hv
      refine ⟨?_, trivial⟩
      simp [Builtin.len_, K.undRun hu, K.undRun hu2, RV.tr, goInt, intV]
    · cases hv
  · rename_i k el hu
    split at hv
    · injection hv with hv; subst hv
      refine ⟨?_, trivial⟩
      simp [Builtin.len_, K.undRun hu, RV.tr, goInt, intV]
    · rename_i b
      split at hv
      · rename_i es c hb
        injection hv with hv; subst hv
        refine ⟨?_, trivial⟩
        obtain ⟨_, _, hok, _⟩ := r.obj b _ hb
        have hok : w.heap[e.at_ b]? = some (.map (es.map (trE e)).toArray c) := hok
        simp [Builtin.len_, K.undRun hu, RV.tr, goInt, intV, run_getObj_map w (e.at_ b) _ c hok]
      · cases hv
    · cases hv
  · rename_i hu
    obtain ⟨n, hn, rfl⟩ := some_map hv
    refine ⟨?_, trivial⟩
    unfold lenT at hn
    split at hn
    · injection hn with hn; subst hn
      simp [Builtin.len_, K.undRun hu, RV.tr, goInt, intV]
    · rename_i c k
      injection hn with hn; subst hn
      have hs : (⟨Array.replicate k c⟩ : ByteArray).size = k := by
        show (Array.replicate k c).size = k
        exact Array.size_replicate
      simp [Builtin.len_, K.undRun hu, RV.tr, goInt, intV, hs]
    · cases hn
  · rename_i el hu
    obtain ⟨n, hn, rfl⟩ := some_map hv
    refine ⟨?_, trivial⟩
    unfold lenS' at hn
    split at hn <;> first
      | (cases hn; done)
      | (injection hn with hn; subst hn
         simp [Builtin.len_, K.undRun hu, RV.tr, goInt, intV])
  · cases hv
end
end Go.Proofs.YtlfljoeafpimpaaGreatDoor
namespace Go.Proofs.YtlfljoeafpimpaaGreatDoor
open Go.RowKit

section
variable {P : Program} {Ty : Tr TypeInfo} {B : Nat → Prop} {w0 w : World} {e : Nv} {h h' : Hp} {F : Fr} {a : Act} {o : Oper} {v : RV} {n : Nat}
/-- the cells of the first elements -/
theorem firstS_run (r : RepH B w0 e h w) {sz n : Nat} {x : RV} {vs : List Seg} (hv : firstS h sz n x = some vs) :
    (Builtin.firstCells sz n (RV.tr e x)).run P w = .ok (trS e vs).toArray w ∧ ltS h.nx vs := by
  unfold firstS at hv
  split at hv
  · injection hv with hv; subst hv
    exact ⟨run_firstCells_none w sz n _ _, trivial⟩
  · rename_i s
    injection hv with hv; subst hv
    refine ⟨?_, pack_lt _⟩
    rw [pack_tr]
    simp only [RV.tr, Builtin.firstCells, Sem.run_pure]
    congr 1
    apply Array.ext'
    simp
  · split at hv
    · injection hv with hv; subst hv
      refine ⟨?_, trivial⟩
      have : 0 * sz = 0 := Nat.zero_mul sz
      simp [RV.tr, Builtin.firstCells, this, loadCells, loadCellsFrom, trS]
    · cases hv
  · split at hv
    · rename_i b o' n' hr
      split at hv
      · rename_i y hy
        split at hv
        · rename_i cs t hs
          split at hv
          · rename_i hl
            injection hv with hv; subst hv
            obtain ⟨c, hc⟩ := rowOf_tr e hr
            refine ⟨?_, takeS_lt _ (dropS_lt _ (r.inScope hy hs))⟩
            rw [hc]
            have hrd := r.read hy hs o' (n * sz)
            refine run_firstCells_some w sz n _ _ _ _ ?_ fun j u hj => ?_
            · rw [trS_len]; exact Nat.eq_of_beq_eq_true hl
            · have := hrd j u hj
              rw [Addr.add_lit]
              exact this
          · cases hv
        · cases hv
      · cases hv
    · cases hv
theorem lenV_of (K : lenV v = some n) (w : World) : (Builtin.lenOf (RV.tr e v)).run P w = .ok n w := by
  unfold lenV at K
  split at K <;> first
    | (cases K; done)
    | (injection K with K; subst K; rfl)
theorem putRow_run (r : RepH B w0 e h w) {b o : Nat} {vs : List Seg} (hl : ltS h.nx vs) (hv : putRow h b o vs = some h') :
    ∃ w', (storeCells ⟨e.at_ b, o, none⟩ (trS e vs)).run P w = .ok () w' ∧ RepH B w0 e h' w' ∧ h'.nx = h.nx := by
  unfold putRow at hv
  split at hv
  · rename_i y hy
    split at hv
    · rename_i cs t hs
      split at hv
      · rename_i h1 h2
        injection hv with hv; subst hv
        obtain ⟨w', hr, r'⟩ := r.store (P := P) hy hs o vs (Nat.le_of_ble_eq_true h1) h2 hl
        exact ⟨w', hr, r', rfl⟩
      · cases hv
    · cases hv
  · cases hv
theorem evCopy_run (K : TyOk P Ty) (r : RepH B w0 e h w) {t : TypeId} {d s : RV} (hv : evCopy Ty h t d s = some (v, h')) {ts : List TypeId} {ty : TypeId} :
    ∃ w', (Builtin.copy_ (t :: ts).toArray ty #[RV.tr e d, RV.tr e s]).run P w = .ok (RV.tr e v) w' ∧ RepH B w0 e h' w' ∧ h'.nx = h.nx ∧ RV.lt h'.nx v := by
  unfold evCopy at hv
  split at hv
  · rename_i el hu
    split at hv
    · rename_i sz dn sn hsz hd hs
      split at hv
      · rename_i vs hf
        obtain ⟨hfr, hfl⟩ := firstS_run (P := P) (e := e) r hf
        split at hv
        · rename_i n c
          injection hv with hv
          injection hv with h1 h2; subst h1 h2
          obtain rfl : n = dn := by simpa [lenV] using hd
          refine ⟨w, ?_, r, rfl, trivial⟩
          simp [Builtin.copy_, K.undRun hu, RV.tr, lenV_of (P := P) (e := e) hs w, K.size hsz, hfr, goInt, intV]
        · split at hv
          · rename_i b o' n' hrow
            obtain ⟨h2, hp, hh⟩ := some_map hv
            injection hh with h3 h4; subst h3 h4
            obtain ⟨w', hst, r', hn⟩ := putRow_run (P := P) r hfl hp
            obtain ⟨c, hc⟩ := rowOf_tr e hrow
            obtain rfl : n' = dn := by
              unfold rowOf at hrow
              split at hrow <;> first
                | (cases hrow; done)
                | (injection hrow with hrow
                   injection hrow with _ hrow
                   injection hrow with _ hrow
                   injection hd with hd
                   omega)
            refine ⟨w', ?_, r', hn, trivial⟩
            simp [Builtin.copy_, K.undRun hu, hc, lenV_of (P := P) (e := e) hs w, K.size hsz, hfr, hst, goInt, intV, RV.tr]
          · cases hv
      · cases hv
    · cases hv
  · cases hv
end
end Go.Proofs.YtlfljoeafpimpaaGreatDoor
