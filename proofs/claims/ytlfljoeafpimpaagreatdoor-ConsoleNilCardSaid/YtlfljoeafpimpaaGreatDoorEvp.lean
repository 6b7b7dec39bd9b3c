/- The evaluator: rows of zeros; make. The evaluator: calls of built-in functions (append stands in the next text); a map made. The evaluator: a plain region. -/
import Derived.Test.YtlfljoeafpimpaaGreatDoorEvm
import Derived.TacticsIn
namespace Go.Proofs.YtlfljoeafpimpaaGreatDoor
open Go.RowKit

section
variable {P : Program} {Ty : Tr TypeInfo} {B : Nat → Prop} {w0 w : World} {e : Nv} {h h' : Hp} {F : Fr} {a : Act} {o : Oper} {v : RV}
def foldN {α : Type} (l : List α) : Nat → List α
  | 0 => []
  | n + 1 => l ++ foldN l n
theorem foldN_len {α : Type} (l : List α) : ∀ n, (foldN l n).length = n * l.length
  | 0 => by simp [foldN]
  | n + 1 => by rw [foldN, List.length_append, foldN_len l n, Nat.succ_mul, Nat.add_comm]
theorem foldN_get {α : Type} (l : List α) : ∀ n i, i < n * l.length → (foldN l n)[i]? = l[i % l.length]?
  | 0, i, h => by simp at h
  | n + 1, i, h => by
    rw [foldN]
    rcases Nat.lt_or_ge i l.length with hl | hl
    · rw [List.getElem?_append_left hl, Nat.mod_eq_of_lt hl]
    · rw [List.getElem?_append_right hl, foldN_get l n (i - l.length) (by rw [Nat.succ_mul] at h; omega)]
      congr 1
      rw [Nat.mod_eq_sub_mod hl]
theorem made_fold (z : Array Value) (m : Nat) : madeCells z (m * z.size) = (foldN z.toList m).toArray := by
  apply Array.ext'
  apply List.ext_getElem?
  intro i
  rcases Nat.lt_or_ge i (m * z.size) with hi | hi
  · have hz : 0 < z.size := by
      rcases Nat.eq_zero_or_pos z.size with h0 | h0
      · rw [h0] at hi; simp at hi
      · exact h0
    have hm := Nat.mod_lt i hz
    have hf := foldN_get z.toList m i (by simpa using hi)
    simp only [Array.length_toList] at hf
    rw [hf]
    simp only [madeCells, Array.toList_map, Array.toList_range, List.getElem?_map, List.getElem?_range hi, Option.map_some]
    rw [getElem!_pos z (i % z.size) hm, Array.getElem?_toList, Array.getElem?_eq_getElem hm]
  · rw [List.getElem?_eq_none (by simp [madeCells]; omega), List.getElem?_eq_none (by simp [foldN_len]; omega)]
theorem repS_tr (e : Nv) (z : List Seg) : ∀ n, trS e (repS z n) = foldN (trS e z) n
  | 0 => rfl
  | n + 1 => by rw [repS, trS_app, repS_tr e z n, foldN]
theorem repS_lt {k : Nat} {z : List Seg} (hz : ltS k z) : ∀ n, ltS k (repS z n)
  | 0 => trivial
  | n + 1 => ltS_app hz (repS_lt hz n)
theorem byt0_fold (k : Nat) : ∀ n, foldN (bytV 0 k) n = bytV 0 (k * n)
  | 0 => by rw [Nat.mul_zero]; rfl
  | n + 1 => by
    have g := bytV_join 0 0 k (k * n)
    simp only [Nat.zero_mod, Nat.zero_shiftLeft, Nat.add_zero] at g
    rw [foldN, byt0_fold k n, ← g, Nat.mul_succ, Nat.add_comm]
theorem timesS_tr (e : Nv) (z : List Seg) (n : Nat) : trS e (timesS z n) = foldN (trS e z) n := by
  unfold timesS
  split
  · rename_i k
    have hz : trS e [.byt 0 k] = bytV 0 k := by simp only [trS, Seg.tr, List.append_nil]
    rw [hz, byt0_fold]
    split
    · rfl
    · simp only [trS, Seg.tr, List.append_nil]
  · exact repS_tr e z n
theorem timesS_lt {k : Nat} {z : List Seg} (hz : ltS k z) (n : Nat) : ltS k (timesS z n) := by
  unfold timesS
  split
  · split
    · trivial
    · exact ⟨trivial, trivial⟩
  · exact repS_lt hz n
theorem TyOk.row (K : TyOk P Ty) {t : TypeId} {z : Value} {y s : Nat} (h1 : zerE Ty t = some z) (h2 : bytE Ty t = some y) (h3 : szE Ty t = some s) :
    ∃ i, P.info? t = some i ∧ i.zero = some z ∧ i.bytes = y ∧ i.size = s := by
  unfold zerE at h1
  unfold bytE at h2
  unfold szE at h3
  cases hi : Tr.get 10 Ty t with
  | none => rw [hi] at h1; cases h1
  | some i =>
    rw [hi] at h1 h2 h3
    exact ⟨i, K.info t i hi, h1, by simpa using h2, by simpa using h3⟩
theorem evMakeSlice_run (K : TyOk P Ty) (r : RepH B w0 e h w) {t : TypeId} {l c : RV} (hv : evMakeSlice Ty h t l c = some (v, h')) :
    ∃ e' w', (Instr.makeSlice t (RV.tr e l) (RV.tr e c)).run P w = .ok (RV.tr e' v) w' ∧ Nv.ext h.nx e e' ∧ RepH B w0 e' h' w' ∧ h.nx ≤ h'.nx ∧ RV.lt h'.nx v := by
  unfold evMakeSlice at hv
  split at hv
  · rename_i el n m hu hn hm
    split at hv
    · rename_i z y s hz hy hs
      split at hv
      · rename_i b1 b2 b3 b4 b5
        injection hv with hv
        injection hv with h1 h2; subst h1 h2
        have b1 := Nat.le_of_ble_eq_true b1
        have b2 := Nat.le_of_ble_eq_true b2
        have b3 := Nat.le_of_ble_eq_true b3
        have b5 := Nat.eq_of_beq_eq_true b5
        have hroom := Hp.room_lt b4
        obtain ⟨k1, rfl⟩ := intN_tr hn
        obtain ⟨k2, rfl⟩ := intN_tr hm
        obtain ⟨i, hi, hiz, hib, his⟩ := K.row hz hy hs
        subst hib his
        have hbb : (i.bytes : Int) * (m : Int) ≤ 281474976710656 := by
          have : ((i.bytes * m : Nat) : Int) ≤ 281474976710656 := by omega
          rwa [Int.natCast_mul] at this
        have hrun := run_make (P := P) w t el i z (K.und hu) hi hiz k1 k2 n m (by omega) (by omega) hbb (by omega)
        simp only [Int.toNat_natCast] at hrun
        rw [← b5, made_fold] at hrun
        have hx := Nv.put_ext e h.nx w.heap.size 0
        refine ⟨e.put h.nx w.heap.size 0, w.alloc (.cells (foldN z.cells.toList m).toArray el), ?_, hx, r.make 0 hroom ?_ (timesS_lt (pack_lt _) m), Nat.le_succ _, Nat.lt_succ_self _⟩
        · rw [show RV.tr e (.lit (.int k1 n)) = .int k1 n from rfl, show RV.tr e (.lit (.int k2 m)) = .int k2 m from rfl, hrun]
          simp only [RV.tr, Nv.put, if_true]
        · exact ⟨(0, 0), by rw [timesS_tr, pack_tr], frz_zero _⟩
      · cases hv
    · cases hv
  · cases hv
theorem opMkSl_run (K : TyOk P Ty) (r : RepH B w0 e h w) (f : RepF e h.nx F a) {t : TypeId} {l c : Operand} (hv : opMkSl Ty F h t l c = some (v, h')) (ho : o.op = .makeSlice t l c) : OpR P B w0 e h a o w v h' := by
  unfold opMkSl at hv
  split at hv
  · rename_i p hp
    split at hv
    · rename_i q hq
      obtain ⟨e', w', hr, hx, r', hn, hl⟩ := evMakeSlice_run K r hv
      refine ⟨e', w', .inl ?_, hx, r', hn, hl⟩
      unfold execOp; rw [ho]
      simp only [(opd_run f hp).1, (opd_run f hq).1]
      exact run_value hr
    · cases hv
  · cases hv
end
end Go.Proofs.YtlfljoeafpimpaaGreatDoor
namespace Go.Proofs.YtlfljoeafpimpaaGreatDoor
open Go.RowKit

section
variable {P : Program} {Ty : Tr TypeInfo} {B : Nat → Prop} {w0 w : World} {e : Nv} {h h' : Hp} {F : Fr} {a : Act} {o : Oper} {v : RV}
/-- what a call yields -/
def BiR (P : Program) (B : Nat → Prop) (w0 : World) (e : Nv) (h : Hp) (b : Builtin) (ts : List TypeId) (xs : List RV) (w : World) (v : RV) (h' : Hp) : Prop :=
  ∀ ty cs, ∃ e' w', (builtin b ts.toArray ty cs (trL e xs).toArray).run P w = .ok (.value (RV.tr e' v)) w' ∧ Nv.ext h.nx e e' ∧ RepH B w0 e' h' w' ∧ h.nx ≤ h'.nx ∧ RV.lt h'.nx v
theorem evBi_run (K : TyOk P Ty) (r : RepH B w0 e h w) {b : Builtin} {ts : List TypeId} {xs : List RV} (hv : evBi Ty h b ts xs = some (v, h')) (hb : b ≠ .append) (hb' : b ≠ .delete) : BiR P B w0 e h b ts xs w v h' := by
  intro ty cs
  unfold evBi at hv
  split at hv
  · rename_i t ts x xs
    obtain ⟨u, hu, hh⟩ := some_map hv
    injection hh with h1 h2; subst h1 h2
    obtain ⟨hr, hl⟩ := evLen_run (P := P) K r hu (ts := ts) (rest := trL e xs) (ty := ty)
    exact ⟨e, w, run_value hr, Nv.ext.refl _ _, r, Nat.le_refl _, hl⟩
  · exact (hb rfl).elim
  · rename_i t ts d s
    obtain ⟨w', hr, r', hn, hl⟩ := evCopy_run (P := P) K r hv (ts := ts) (ty := ty)
    exact ⟨e, w', run_value hr, Nv.ext.refl _ _, r', Nat.le_of_eq hn.symm, hl⟩
  · exact (hb' rfl).elim
  · rename_i t ts x
    have key : ∀ (w' : World) (h1 : Hp), (Builtin.clear_ (t :: ts).toArray ty (trL e [x]).toArray).run P w = .ok (.tuple #[]) w' → RepH B w0 e h1 w' → h1.nx = h.nx →
        ∃ e' w', (builtin .clear (t :: ts).toArray ty cs (trL e [x]).toArray).run P w = .ok (.value (RV.tr e' (.lit (.tuple #[])))) w' ∧ Nv.ext h.nx e e' ∧ RepH B w0 e' h1 w' ∧ h.nx ≤ h1.nx ∧ RV.lt h1.nx (.lit (.tuple #[])) :=
      fun w' h1 hr r' hn => ⟨e, w', run_value hr, Nv.ext.refl _ _, r', Nat.le_of_eq hn.symm, trivial⟩
    split at hv
    · rename_i d hu
      injection hv with hv
      injection hv with h1 h2; subst h1 h2
      refine key w _ ?_ r rfl
      simp [Builtin.clear_, K.undRun hu, trL, RV.tr]
    · rename_i d n c hu
      injection hv with hv
      injection hv with h1 h2; subst h1 h2
      refine key w _ ?_ r rfl
      simp [Builtin.clear_, K.undRun hu, trL, RV.tr]
    · rename_i d b hu
      split at hv
      · rename_i es c hb
        injection hv with hv
        injection hv with h1 h2; subst h1 h2
        have hblk : w.heap[e.at_ b]? = some (.map (es.map (trE e)).toArray c) := (r.obj b _ hb).2.2.1
        refine key _ _ ?_ (r.setObj (x := .map #[] c) (o' := .map [] c) hb (by simp [RO.ok]) (fun x hx => by cases hx)) rfl
        simp [Builtin.clear_, K.undRun hu, trL, RV.tr, run_getObj_map w (e.at_ b) _ c hblk]
        simp [setObj, Sem.run, hblk]
      · cases hv
    · rename_i hu _ _ _
      split at hv
      · rename_i b o n z hro hz
        obtain ⟨c, hxt⟩ := rowOf_tr e hro
        obtain ⟨h1', hp, hh⟩ := some_map hv
        injection hh with h1 h2; subst h1 h2
        obtain ⟨w', hr, r', hnx⟩ := putRow_run (P := P) r (timesS_lt (pack_lt _) (n + 1)) hp
        rw [timesS_tr, pack_tr] at hr
        refine key w' _ ?_ r' hnx
        have hzc : (Builtin.zeroCells z.cells (n + 1)).toList = foldN z.cells.toList (n + 1) := by
          have := made_fold z.cells (n + 1)
          have h2 : Builtin.zeroCells z.cells (n + 1) = madeCells z.cells ((n + 1) * z.cells.size) := rfl
          rw [h2, this]
        simp [Builtin.clear_, K.undRun hu, trL, hxt, K.zero hz, hzc, hr]
      · rename_i b o z hro hz
        obtain ⟨c, hxt⟩ := rowOf_tr e hro
        injection hv with hv
        injection hv with h1 h2; subst h1 h2
        refine key w _ ?_ r rfl
        simp [Builtin.clear_, K.undRun hu, trL, hxt]
      · cases hv
    · cases hv
  · injection hv with hv
    injection hv with h1 h2; subst h1 h2
    refine ⟨e, w, run_value ?_, Nv.ext.refl _ _, r, Nat.le_refl _, trivial⟩
    simp [Builtin.min_, Builtin.min2, trL, RV.tr]
  · injection hv with hv
    injection hv with h1 h2; subst h1 h2
    refine ⟨e, w, run_value ?_, Nv.ext.refl _ _, r, Nat.le_refl _, trivial⟩
    simp [Builtin.max_, Builtin.max2, trL, RV.tr]
  · injection hv with hv
    injection hv with h1 h2; subst h1 h2
    refine ⟨e, w, run_value ?_, Nv.ext.refl _ _, r, Nat.le_refl _, trivial⟩
    simp [Builtin.max_, Builtin.max2, trL, RV.tr]
  · cases hv
theorem bi_call (f : RepF e h.nx F a) {c : Call} {b : Builtin} {xs : List RV} (ho : o.op = .call c) (hc : c.callee = .builtin b) (hx : opds F c.args.toList = some xs) (hv : BiR P B w0 e h b c.argTypes.toList xs w v h') : OpR P B w0 e h a o w v h' := by
  obtain ⟨cs, hcs⟩ := call_builtin (P := P) (w := w) (a := a) ho hc
  obtain ⟨e', w', hr, hx', r', hn, hl⟩ := hv o.type cs
  refine ⟨e', w', .inl (hcs _ _ ?_), hx', r', hn, hl⟩
  have g : c.args.map a.eval = (trL e xs).toArray := by rw [← (opds_run f hx).1, ← Array.toList_map, Array.toArray_toList]
  rw [g]
  simpa only [Array.toArray_toList] using hr
theorem opMap_run (r : RepH B w0 e h w) {t : TypeId} {x : Option Operand} (hv : opMap h x = some (v, h')) (ho : o.op = .makeMap t x) : OpR P B w0 e h a o w v h' := by
  unfold opMap at hv
  split at hv
  · split at hv
    · rename_i hroom
      injection hv with hv
      injection hv with h1 h2; subst h1 h2
      refine ⟨e.put h.nx w.heap.size 0, w.alloc (.map #[] 0), .inl ?_, Nv.put_ext _ _ _ _, r.make 0 (Hp.room_lt hroom) ?_ ?_, Nat.le_succ _, Nat.lt_succ_self _⟩
      · unfold execOp; rw [ho]
        refine run_value ?_
        simp [Instr.makeMap, RV.tr, Nv.put]
      · simp [RO.ok]
      · simp [RO.lt]
    · cases hv
  · cases hv
end
end Go.Proofs.YtlfljoeafpimpaaGreatDoor
namespace Go.Proofs.YtlfljoeafpimpaaGreatDoor
open Go.RowKit

section
variable {P : Program} {Ty : Tr TypeInfo} {B : Nat → Prop} {w0 w : World} {e : Nv} {h h' : Hp} {F : Fr} {a : Act} {o : Oper} {v : RV}
theorem wantE_run (f : RepF e h.nx F a) {ops : List Oper} {b : Bool} (hv : wantE ops F o = some b) : Region.wanted o (yielded ops.toArray a.tmps) = b := by
  unfold wantE at hv
  unfold Region.wanted
  split at hv
  · rename_i hg
    injection hv with hv; subst hv
    rw [hg]
  · rename_i j want hg
    rw [hg]
    split at hv
    · rename_i g hj
      split at hv
      · rename_i d hd
        have hy : ∀ x, opd F (.tmp d) = some x → a.tmps[d]? = some (RV.tr e x) := fun x hx => by
          simp only [opd] at hx
          split at hx
          · rename_i hb
            exact (f.tmp d x (Nat.le_of_ble_eq_true hb) hx).1
          · cases hx
        have hb : ((ops.toArray[j]?).bind (·.dst)).bind (a.tmps[·]?) = a.tmps[d]? := by
          simp only [List.getElem?_toArray, hj, Option.bind_some, hd]
        split at hv
        · rename_i b' hx
          injection hv with hv; subst hv
          simp only [yielded, hb, hy _ hx, RV.tr]
          cases b' <;> cases want <;> rfl
        · rename_i l hx
          injection hv with hv; subst hv
          simp only [yielded, hb, hy _ hx, RV.tr]
          rfl
        · cases hv
      · cases hv
    · cases hv
/-- every frame is let in; rounds of the loop r -/
abbrev rd (r : Option Nat) : Fence := { Fence.wide with round := r }
/-- the fence of a frame -/
abbrev Fr.fe (F : Fr) (e : Nv) : Fence := rd (F.ro.map e.at_)
theorem fe_same {F F' : Fr} {e e' : Nv} {nx : Nat} (hx : Nv.ext nx e e') (hl : ∀ b, F.ro = some b → b < nx) (hr : F'.ro = F.ro) : F'.fe e' = F.fe e := by
  unfold Fr.fe
  rw [hr]
  cases h : F.ro with
  | none => rfl
  | some b => simp only [Option.map_some, (hx b (hl b h)).1]
theorem not_defer {n : Next} {w' : World} (hr : (execOp a.eval o).run P w = .ok n w') (hn : ∀ d, n ≠ .defer d) : ∀ c, o.op ≠ .defer c := by
  intro c hc
  unfold execOp at hr
  rw [hc] at hr
  simp only [Sem.run_bind] at hr
  cases hq : (resolve a.eval c o.type).run P w with
  | ok d w1 =>
    rw [hq] at hr
    simp only [Result.andThen_ok, Sem.run_pure] at hr
    injection hr with hr _
    exact hn d hr.symm
  | halt x w1 => rw [hq] at hr; cases hr
/-- from a run of one operation to its weakest premise -/
theorem run_wpIn {rr : Option Nat} {n : Next} {w' : World} {next : Act → World → Prop} {Q : Exit → Act → World → Prop} (hr : (execOp a.eval o).run P w = .ok n w') (hn : ∀ d, n ≠ .defer d)
    (h : o.uponIn (rd rr) 0 P a next Q (.ok n w')) : o.wpIn (rd rr) 0 P a w next Q := by
  refine ⟨fun _ _ => trivial, ?_⟩
  rw [Oper.semAt_eq _ _ _ (not_defer hr hn), hr]
  exact h
theorem OpR.wp {rr : Option Nat} (hr : OpR P B w0 e h a o w v h') {b : Act} (hb : execOp b.eval o = execOp a.eval o) {next : Act → World → Prop} {Q : Exit → Act → World → Prop}
    (hn : ∀ e' w', Nv.ext h.nx e e' → RepH B w0 e' h' w' → h.nx ≤ h'.nx → RV.lt h'.nx v → next (b.put o.dst (RV.tr e' v)) w') : o.wpIn (rd rr) 0 P b w next Q := by
  obtain ⟨e', w', hr, hx, r', hl, hv⟩ := hr
  rw [← hb] at hr
  rcases hr with hr | ⟨hr, rfl⟩
  · exact run_wpIn hr (fun d hd => nomatch hd) (hn e' w' hx r' hl hv)
  · exact run_wpIn hr (fun d hd => nomatch hd) (hn e' w' hx r' hl hv)
/-- every operation of the evaluator is one of the machine's -/
def OpSound (P : Program) (Ty : Tr TypeInfo) (call : CallE) : Prop :=
  ∀ {B : Nat → Prop} {w0 : World} {rr : Option Nat} {w : World} {e : Nv} {h h' : Hp} {F : Fr} {a : Act} {o : Oper} {v : RV}, RepH B w0 e h w → RepF e h.nx F a → evOp Ty call F h o = some (v, h') →
    ∀ (b : Act), execOp b.eval o = execOp a.eval o → ∀ (next : Act → World → Prop) (Q : Exit → Act → World → Prop),
      (∀ e' w', Nv.ext h.nx e e' → RepH B w0 e' h' w' → h.nx ≤ h'.nx → RV.lt h'.nx v → next (b.put o.dst (RV.tr e' v)) w') → o.wpIn (rd rr) 0 P b w next Q
/-- a deferred call is put aside -/
theorem defer_run (f : RepF e h.nx F a) {ih : OpsE} {z : Fr × Hp} (hv : deferE ih F h o = some z) :
    ∃ d, F.ro = none ∧ ih ((⟨F.nt, F.T, d :: F.D, none⟩ : Fr).put o.dst (.lit undef)) h = some z ∧
      RepF e h.nx ((⟨F.nt, F.T, d :: F.D, none⟩ : Fr).put o.dst (.lit undef)) (({ a with defers := trD e d :: a.defers } : Act).put o.dst undef) ∧
      (execOp a.eval o).run P w = .ok (.defer (trD e d)) w := by
  unfold deferE at hv
  split at hv
  · rename_i c hc
    split at hv
    · rename_i g hg
      split at hv
      · rename_i q p s xs hu hxs hro
        obtain ⟨he, hlu⟩ := opd_run f hu
        obtain ⟨hx1, hx2⟩ := opds_run f hxs
        have hargs : c.args.map a.eval = (trL e xs).toArray := by rw [← hx1, ← Array.toList_map, Array.toArray_toList]
        obtain ⟨hd, hv⟩ := putK_some hv
        have f1 : RepF e h.nx ⟨F.nt, F.T, .call q (p ++ xs) s :: F.D, none⟩ { a with defers := trD e (.call q (p ++ xs) s) :: a.defers } := by
          refine ⟨f.size, f.fullT, f.tmp, by rw [List.map_cons, f.defers], fun d hd => ?_, fun b hb => nomatch hb⟩
          rcases List.mem_cons.1 hd with rfl | hd
          · exact ⟨ltL_mem.2 fun v hv => by
              rcases List.mem_append.1 hv with h1 | h1
              · exact ltL_mem.1 hlu.1 v h1
              · exact ltL_mem.1 hx2 v h1, hlu.2⟩
          · exact f.dlt d hd
        refine ⟨_, hro, hv, f1.put (v := .lit undef) hd trivial, ?_⟩
        unfold execOp
        rw [hc]
        simp only [Sem.run_bind]
        unfold resolve
        simp only [hg, he, RV.tr, Deferred.ofValue, hargs, Sem.run_pure, Result.andThen_ok, trD, trL_map, List.map_append]
        simp
      · cases hv
    · cases hv
  · cases hv
theorem evOps_run {call : CallE} (S : OpSound P Ty call) {ops : List Oper} {Q : Exit → Act → World → Prop} : ∀ {l : List Oper} {F F' : Fr} {e : Nv} {h h' : Hp} {a : Act} {w : World},
    RepH B w0 e h w → RepF e h.nx F a → evOps Ty call ops l F h = some (F', h') →
    (∀ e' w' a', Nv.ext h.nx e e' → RepH B w0 e' h' w' → RepF e' h'.nx F' a' → h.nx ≤ h'.nx → F'.ro = F.ro → Q .normal a' w') → wpListIn (F.fe e) 0 P ops.toArray Q l a w
  | [], F, F', e, h, h', a, w, r, f, hv, hQ => by
    replace hv : some (F, h) = some (F', h') := hv
    injection hv with hv
    injection hv with h1 h2; subst h1 h2
    exact hQ e w a (Nv.ext.refl _ _) r f (Nat.le_refl _) rfl
  | o :: l, F, F', e, h, h', a, w, r, f, hv, hQ => by
    replace hv : opsStep Ty call ops o (evOps Ty call ops l) F h = some (F', h') := hv
    unfold opsStep at hv
    unfold wpListIn
    split at hv
    · rename_i hw
      rw [if_pos (wantE_run f hw)]
      cases hz : evOp Ty call F h o with
      | none =>
        rw [hz] at hv
        replace hv : deferE (evOps Ty call ops l) F h o = some (F', h') := hv
        obtain ⟨d, hro, hv, f1, hrun⟩ := defer_run (P := P) (w := w) f hv
        have hfe : F.fe e = rd none := by unfold Fr.fe; rw [hro]; rfl
        refine ⟨fun _ _ => trivial, ?_⟩
        rw [hfe]
        show Oper.uponIn _ 0 P o a _ Q ((o.semAt none a.eval).run P w)
        rw [Oper.semAt_none, hrun]
        show wpListIn (rd none) 0 P ops.toArray Q l _ w
        have hfe2 : ((⟨F.nt, F.T, d :: F.D, none⟩ : Fr).put o.dst (.lit undef)).fe e = rd none := by unfold Fr.fe; rw [Fr.put_ro]; rfl
        rw [← hfe2]
        exact evOps_run S r f1 hv fun e2 w2 a2 hx2 r2 f2 hn2 hr2 => hQ e2 w2 a2 hx2 r2 f2 hn2 (by rw [hr2, Fr.put_ro, hro])
      | some p =>
        obtain ⟨v, h1⟩ := p
        rw [hz] at hv
        replace hv : putK (evOps Ty call ops l) F o.dst v h1 = some (F', h') := hv
        obtain ⟨hd, hv⟩ := putK_some hv
        refine S r f hz a rfl _ _ fun e1 w1 hx r1 hn hl => ?_
        have f1 := (f.ext hx hn).put (d := o.dst) hd hl
        rw [← fe_same (F' := F.put o.dst v) hx f.rlt (Fr.put_ro ..)]
        exact evOps_run S r1 f1 hv fun e2 w2 a2 hx2 r2 f2 hn2 hr2 => hQ e2 w2 a2 (hx.trans hx2 hn) r2 f2 (Nat.le_trans hn hn2) (hr2.trans (Fr.put_ro ..))
    · rename_i hw
      rw [if_neg (by rw [wantE_run f hw]; exact Bool.false_ne_true)]
      obtain ⟨hd, hv⟩ := putK_some hv
      have f1 := f.put (d := o.dst) (v := .lit undef) hd trivial
      refine ⟨fun _ _ => trivial, ?_⟩
      rw [← fe_same (F' := F.put o.dst (.lit undef)) (Nv.ext.refl _ _) f.rlt (Fr.put_ro ..)]
      exact evOps_run S r f1 hv fun e2 w2 a2 hx2 r2 f2 hn2 hr2 => hQ e2 w2 a2 hx2 r2 f2 hn2 (hr2.trans (Fr.put_ro ..))
    · cases hv
end
end Go.Proofs.YtlfljoeafpimpaaGreatDoor
