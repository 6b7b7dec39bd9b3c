/- The evaluator: delete; walks over maps that have an entry at most. -/
import Derived.Test.YtkjgmakaidfgaaaGreatDoorEvy
import Derived.Maps.RangeRun
namespace Go.Proofs.YtkjgmakaidfgaaaGreatDoor
open Go.RowKit
open Go.MapKept (IsKey run_checkKey run_findKey run_setObj_map)
open Go.ChangeMaps (setBlock)

section
variable {P : Program} {Ty : Tr TypeInfo} {B : Nat → Prop} {w0 w : World} {e : Nv} {h h' : Hp} {F : Fr} {a : Act} {o : Oper} {v : RV}
theorem eraseIdx_map' {α β : Type} (f : α → β) : ∀ (l : List α) (i : Nat), (l.eraseIdx i).map f = (l.map f).eraseIdx i
  | [], i => by simp
  | x :: l, 0 => by simp
  | x :: l, i + 1 => by simp [eraseIdx_map' f l i]
theorem evDel_run (K : TyOk P Ty) (r : RepH B w0 e h w) {t : TypeId} {ts : List TypeId} {ty : TypeId} {m k : RV} (hv : evDel Ty h t m k = some h') :
    ∃ w', (Builtin.delete_ (t :: ts).toArray ty (trL e [m, k]).toArray).run P w = .ok (.tuple #[]) w' ∧ RepH B w0 e h' w' ∧ h'.nx = h.nx := by
  unfold evDel at hv
  split at hv
  · rename_i kt el hu
    split at hv
    · rename_i d hd
      split at hv
      · rename_i hk
        split at hv
        · injection hv with hv; subst hv
          refine ⟨w, ?_, r, rfl⟩
          have hck := run_checkKey (P := P) (w := w) (K.und hd) (keyT_is e hk) true 9999
          simp [Builtin.delete_, K.undRun hu, trL, RV.tr, hck]
        · rename_i b
          split at hv
          · rename_i es c hb
            have hblk : w.heap[e.at_ b]? = some (.map (es.map (trE e)).toArray c) := (r.obj b _ hb).2.2.1
            have hck := run_checkKey (P := P) (w := w) (K.und hd) (keyT_is e hk) ((es.map (trE e)).toArray.isEmpty) 9999
            have hmem := map_lt r hb
            split at hv
            · rename_i hq
              injection hv with hv; subst hv
              have hfk := run_findKey (P := P) (w := w) (kt := kt) (K.und hd) (findE_now e hk hq).1
              refine ⟨_, ?_, r.setObj (x := .map (es.map (trE e)).toArray c) hb rfl hmem, rfl⟩
              unfold Builtin.delete_
              simp only [trL, RV.tr, List.getElem?_toArray, List.getElem?_cons_zero, List.getElem?_cons_succ, Sem.run_bind, K.undRun hu, Result.andThen_ok, MapKept.run_getObj_map hblk, hck, hfk, Option.map_none]
              rw [run_setObj_map _ hblk]
              rfl
            · rename_i i u hq
              injection hv with hv; subst hv
              have hfk := run_findKey (P := P) (w := w) (kt := kt) (K.und hd) (findE_now e hk hq).1
              refine ⟨_, ?_, r.setObj (x := .map ((es.eraseIdx i).map (trE e)).toArray c) hb rfl (fun x hx => hmem x (List.mem_of_mem_eraseIdx hx)), rfl⟩
              unfold Builtin.delete_
              simp only [trL, RV.tr, List.getElem?_toArray, List.getElem?_cons_zero, List.getElem?_cons_succ, Sem.run_bind, K.undRun hu, Result.andThen_ok, MapKept.run_getObj_map hblk, hck, hfk, Option.map_some]
              rw [run_setObj_map _ hblk]
              have : (es.map (trE e)).toArray.eraseIdxIfInBounds i = ((es.eraseIdx i).map (trE e)).toArray := by
                rw [eraseIdx_map']
                simp
              rw [this]
              rfl
            · cases hv
          · cases hv
        · cases hv
      · cases hv
    · cases hv
  · cases hv
theorem opRng_run (K : TyOk P Ty) (r : RepH B w0 e h w) (f : RepF e h.nx F a) {t : TypeId} {x : Operand} (hv : opRng Ty F h t x = some (v, h')) (ho : o.op = .range t x) : OpR P B w0 e h a o w v h' := by
  unfold opRng at hv
  split at hv
  · rename_i y hy
    obtain ⟨he, hl⟩ := opd_run f hy
    unfold evRng at hv
    split at hv
    · rename_i kt el hu hroom
      split at hv
      · injection hv with hv
        injection hv with h1 h2; subst h1 h2
        refine ⟨e.put h.nx w.heap.size 0, w.alloc (.mapIter none 0 #[] 0), .inl ?_, Nv.put_ext _ _ _ _, r.make 0 (Hp.room_lt hroom) (by simp [RO.ok]) (fun b hb => by cases hb), Nat.le_succ _, Nat.lt_succ_self _⟩
        unfold execOp; rw [ho]
        refine run_value ?_
        simp [Instr.range, he, K.undRun hu, RV.tr, Nv.put]
      · rename_i b
        split at hv
        · rename_i es c hb
          injection hv with hv
          injection hv with h1 h2; subst h1 h2
          obtain ⟨hbn, _, hblk, _⟩ := r.obj b _ hb
          have hblk : w.heap[e.at_ b]? = some (.map (es.map (trE e)).toArray c) := hblk
          refine ⟨e.put h.nx w.heap.size 0, w.alloc (.mapIter (some (e.at_ b)) c #[] c), .inl ?_, Nv.put_ext _ _ _ _, r.make 0 (Hp.room_lt hroom) ?_ (fun b' hb' => by injection hb' with hb'; subst hb'; omega), Nat.le_succ _, Nat.lt_succ_self _⟩
          · unfold execOp; rw [ho]
            refine run_value ?_
            simp [Instr.range, he, K.undRun hu, RV.tr, Nv.put, MapKept.run_getObj_map hblk]
          · have : b ≠ h.nx := by omega
            simp [RO.ok, Nv.put, this]
        · cases hv
      · cases hv
    · cases hv
  · cases hv
theorem bornLt_mem {n : Nat} : ∀ {es : List (RV × RV × Nat)}, bornLt n es = true → ∀ x ∈ es, x.2.2 < n
  | [], _, x, hx => by cases hx
  | y :: es, hb, x, hx => by
    unfold bornLt at hb
    split at hb
    · rename_i h1
      rcases List.mem_cons.1 hx with rfl | hx
      · exact Nat.le_of_ble_eq_true h1
      · exact bornLt_mem hb x hx
    · cases hb
theorem hasN_eq (b : Nat) : ∀ l : List Nat, hasN b l = l.contains b
  | [] => rfl
  | x :: r => by
    unfold hasN
    split
    · rename_i h1
      have := Nat.eq_of_beq_eq_true h1
      simp [this]
    · rename_i h1
      rw [hasN_eq b r]
      have : ¬ x = b := fun hh => by subst hh; rw [show Nat.beq x x = true from Nat.beq_refl x] at h1; cases h1
      have h2 : ¬ b = x := fun hh => this hh.symm
      simp [h2]
theorem leftE_eq (seen : List Nat) : ∀ es : List (RV × RV × Nat), leftE seen es = es.filter fun x => !seen.contains x.2.2
  | [] => rfl
  | x :: r => by
    unfold leftE
    rw [List.filter_cons, leftE_eq seen r, hasN_eq]
    cases seen.contains x.2.2 <;> rfl
theorem left_of (e : Nv) (seen : List Nat) (es : List (RV × RV × Nat)) : leftOf (es.map (trE e)).toArray seen.toArray = ((leftE seen es).map (trE e)).toArray := by
  unfold leftOf
  rw [leftE_eq]
  simp only [List.filter_toArray, List.filter_map]
  congr 1
  refine congrArg _ (List.filter_congr fun x _ => ?_)
  rw [Bool.eq_iff_iff]
  simp [trE]
  exact decide_eq_false_iff_not
theorem opNxt_run (r : RepH B w0 e h w) (f : RepF e h.nx F a) {x : Operand} {s : Bool} (hv : opNxt F h x s = some (v, h')) (ho : o.op = .next x s) : OpR P B w0 e h a o w v h' := by
  unfold opNxt at hv
  split at hv
  · rename_i y hy
    obtain ⟨he, hl⟩ := opd_run f hy
    unfold evNxt at hv
    split at hv
    · rename_i i
      split at hv
      · rename_i s1 s2 s3 hi
        injection hv with hv
        injection hv with h1 h2; subst h1 h2
        have hit : w.heap[e.at_ i]? = some (.mapIter none s1 s2.toArray s3) := (r.obj i _ hi).2.2.1
        refine ⟨e, w, .inl ?_, Nv.ext.refl _ _, r, Nat.le_refl _, ⟨trivial, trivial⟩⟩
        unfold execOp; rw [ho]
        refine run_value ?_
        simp only [he, RV.tr]
        simp [Instr.next, getObj, Sem.run, hit, Result.andThen, trL, RV.tr]
      · rename_i m since seen c0 hi
        have hit : w.heap[e.at_ i]? = some (.mapIter (some (e.at_ m)) since seen.toArray c0) := (r.obj i _ hi).2.2.1
        split at hv
        · rename_i es c hm
          have hblk : w.heap[e.at_ m]? = some (.map (es.map (trE e)).toArray c) := (r.obj m _ hm).2.2.1
          split at hv
          · rename_i hb1 hb2
            have hold : ∀ z ∈ ((es.map (trE e)).toArray).toList, z.born < since := fun z hz => by
              simp only at hz
              obtain ⟨u, hu, rfl⟩ := List.mem_map.1 hz
              exact bornLt_mem hb1 u hu
            have hrun := fun ty => run_next_at (P := P) w ty (e.at_ i) (e.at_ m) since c0 seen.toArray _ c hit hblk hold (Nat.le_of_ble_eq_true hb2)
            split at hv
            · rename_i hleft
              injection hv with hv
              injection hv with h1 h2; subst h1 h2
              refine ⟨e, w, .inl ?_, Nv.ext.refl _ _, r, Nat.le_refl _, ⟨trivial, trivial⟩⟩
              unfold execOp; rw [ho]
              refine run_value ?_
              rcases hrun o.type with ⟨_, hr⟩ | ⟨z, hz, _⟩
              · simp only [he, RV.tr, trL]; exact hr
              · rw [left_of, hleft] at hz
                simp at hz
            · rename_i z hleft
              injection hv with hv
              injection hv with h1 h2; subst h1 h2
              have hzm : z ∈ es := by
                have : z ∈ leftE seen es := by rw [hleft]; exact List.mem_singleton_self _
                rw [leftE_eq] at this
                exact (List.mem_filter.1 this).1
              have hzl := map_lt r hm z hzm
              rcases hrun o.type with ⟨hc, _⟩ | ⟨z', hz, w1, hw1, hr⟩
              · rw [left_of, hleft] at hc
                simp at hc
              · rw [left_of, hleft] at hz
                simp at hz
                subst hz
                have r1 : RepH B w0 e h w1 := by
                  rcases hw1 with rfl | rfl
                  · exact r
                  · exact r.drew
                refine ⟨e, _, .inl ?_, Nv.ext.refl _ _, r1.setObj (x := .mapIter (some (e.at_ m)) since (seen ++ [z.2.2]).toArray c) (o' := .itr (some m) since (seen ++ [z.2.2]) c) hi (by simp [RO.ok]) (r.obj i _ hi).2.2.2, Nat.le_refl _, ⟨trivial, hzl.1, hzl.2, trivial⟩⟩
                unfold execOp; rw [ho]
                refine run_value ?_
                simp only [he, RV.tr, trL]
                refine hr.trans ?_
                simp [trE, setBlock]
            · cases hv
          · cases hv
        · cases hv
      · cases hv
    · cases hv
  · cases hv
theorem lastN_eq : ∀ l : List Nat, lastN l = l.getLast?
  | [] => rfl
  | [_] => rfl
  | _ :: y :: r => by
    unfold lastN
    rw [lastN_eq (y :: r), List.getLast?_cons_cons]
theorem bornE_eq (e : Nv) (b : Nat) : ∀ es : List (RV × RV × Nat), (es.map (trE e)).find? (fun x => x.born == b) = (bornE b es).map (trE e)
  | [] => rfl
  | x :: r => by
    unfold bornE
    rw [List.map_cons, List.find?_cons]
    have : ((trE e x).born == b) = Nat.beq x.2.2 b := by
      rw [Bool.eq_iff_iff]
      simp [trE, Nat.beq_eq]
    rw [this]
    cases Nat.beq x.2.2 b
    · exact bornE_eq e b r
    · rfl
theorem bornE_mem {b : Nat} : ∀ {es : List (RV × RV × Nat)} {y}, bornE b es = some y → y ∈ es
  | [], y, hy => by cases hy
  | x :: r, y, hy => by
    unfold bornE at hy
    split at hy
    · injection hy with hy; subst hy
      exact List.mem_cons_self ..
    · exact List.mem_cons_of_mem _ (bornE_mem hy)
theorem opEnt_run (r : RepH B w0 e h w) (f : RepF e h.nx F a) {x : Operand} (hv : opEnt F h x = some (v, h')) (ho : o.op = .entry x) : OpR P B w0 e h a o w v h' := by
  unfold opEnt at hv
  split at hv
  · rename_i y hy
    obtain ⟨he, hl⟩ := opd_run f hy
    unfold evEnt at hv
    split at hv
    · rename_i i
      split at hv
      · rename_i m since seen c0 hi
        have hit : w.heap[e.at_ i]? = some (.mapIter (some (e.at_ m)) since seen.toArray c0) := (r.obj i _ hi).2.2.1
        split at hv
        · rename_i b es c hb hm
          have hblk : w.heap[e.at_ m]? = some (.map (es.map (trE e)).toArray c) := (r.obj m _ hm).2.2.1
          split at hv
          · rename_i z hc hz
            injection hv with hv
            injection hv with h1 h2; subst h1 h2
            obtain rfl := Nat.eq_of_beq_eq_true hc
            have hzl := map_lt r hm z (bornE_mem hz)
            refine ⟨e, w, .inl ?_, Nv.ext.refl _ _, r, Nat.le_refl _, ⟨hzl.1, hzl.2, trivial⟩⟩
            unfold execOp; rw [ho]
            refine run_value ?_
            have hf : (es.map (trE e)).toArray.find? (fun x => x.born == b) = some (trE e z) := by
              rw [List.find?_toArray, bornE_eq, hz]; rfl
            have hbk : seen.toArray.back? = some b := by
              rw [lastN_eq] at hb
              simp [hb]
            simp only [he, RV.tr, trL]
            simp only [Instr.entry, getObj, Sem.run_bind, Sem.run, hit, hblk, Result.andThen, hbk, bne_self_eq_false, Bool.false_eq_true, if_false, hf]
            rfl
          · cases hv
        · cases hv
      · cases hv
    · cases hv
  · cases hv
end
end Go.Proofs.YtkjgmakaidfgaaaGreatDoor
