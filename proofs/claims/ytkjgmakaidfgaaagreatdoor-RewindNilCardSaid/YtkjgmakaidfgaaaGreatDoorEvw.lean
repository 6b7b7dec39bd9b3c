/- The evaluator: build, buildSlice; maps; conversions. -/
import Derived.Test.YtkjgmakaidfgaaaGreatDoorEvv
import Derived.Great.BuildSlice
import Derived.MapKept
import Derived.Laws.IdiomStrings
namespace Go.Proofs.YtkjgmakaidfgaaaGreatDoor
open Go.RowKit

section
variable {P : Program} {Ty : Tr TypeInfo} {B : Nat → Prop} {w0 w : World} {e : Nv} {h h' : Hp} {F : Fr} {a : Act} {o : Oper} {v : RV}
theorem foldl_put : ∀ (l : List Value) (k off : Nat) (A : Array Value), off + k + l.length ≤ A.size →
    ((l.zipIdx k).foldl (fun cs (x : Value × Nat) => cs.setIfInBounds (off + x.2) x.1) A) = (A.toList.take (off + k) ++ l ++ A.toList.drop (off + k + l.length)).toArray
  | [], k, off, A, _ => by simp
  | v :: l, k, off, A, hl => by
    simp only [List.length_cons] at hl
    rw [List.zipIdx_cons, List.foldl_cons, foldl_put l (k + 1) off _ (by rw [Array.size_setIfInBounds]; omega)]
    congr 1
    have e := list_seg_step A.toList (off + k) v l (by simp; omega)
    simpa [Array.toList_setIfInBounds, Nat.add_assoc] using e
theorem fillS_run (e : Nv) {place place' : Nat → Option (Nat × Nat)} (hp : ∀ i q, place i = some q → place' i = some q) : ∀ {ps : List (Nat × RV)} {cs r : List Seg}, fillS place cs ps = some r →
    Instr.fill place' (trS e cs).toArray (ps.map fun p => (p.1, RV.tr e p.2)) = some (trS e r).toArray ∧ (∀ n, ltS n cs → (∀ p ∈ ps, RV.lt n p.2) → ltS n r)
  | [], cs, r, hv => by
    injection hv with hv; subst hv
    exact ⟨rfl, fun _ h _ => h⟩
  | (i, v) :: ps, cs, r, hv => by
    unfold fillS at hv
    split at hv
    · cases hv
    · rename_i o s hpl
      split at hv
      · rename_i b1 b2 b3
        have b1 := Nat.eq_of_beq_eq_true b1
        have b2 := Nat.le_of_ble_eq_true b2
        have hc := oneC_cells e b3
        have hsz : (RV.tr e v).cells.size = s := by rw [← Array.length_toList, hc, trS_len]; exact b1
        obtain ⟨g1, g2⟩ := fillS_run e hp hv
        refine ⟨?_, fun n hn hps => g2 n (putS_lt o hn (RV.segs_lt (hps (i, v) (List.mem_cons_self ..)))) fun p hm => hps p (List.mem_cons_of_mem _ hm)⟩
        rw [List.map_cons]
        unfold Instr.fill
        simp only [hp i _ hpl]
        have hcl := trS_len e cs
        rw [if_neg (by simp [hsz, hcl]; omega)]
        have hf : (RV.tr e v).cells.zipIdx.foldl (fun cs (x : Value × Nat) => cs.setIfInBounds (o + x.2) x.1) (trS e cs).toArray = (trS e (putS cs o v.segs)).toArray := by
          rw [← Array.foldl_toList, Array.toList_zipIdx, hc, foldl_put _ 0 o _ (by simp [trS_len]; omega)]
          rw [putS_tr, Nat.add_zero, trS_len]
        rw [← g1]
        congr 1
      · cases hv
theorem parts_run (f : RepF e h.nx F a) : ∀ {l : List (Nat × Operand)} {ps : List (Nat × RV)}, parts (opd F) l = some ps →
    l.map (fun p => (p.1, a.eval p.2)) = ps.map (fun p => (p.1, RV.tr e p.2)) ∧ ∀ p ∈ ps, RV.lt h.nx p.2
  | [], ps, hv => by
    replace hv := Option.some.inj hv; subst hv
    exact ⟨rfl, fun p hp => by cases hp⟩
  | x :: l, ps, hv => by
    replace hv : (match opd F x.2 with
      | some v => match parts (opd F) l with
        | some l => some ((x.1, v) :: l)
        | none => none
      | none => none) = some ps := hv
    split at hv
    · rename_i v hx
      split at hv
      · rename_i qs hq
        injection hv with hv; subst hv
        obtain ⟨h1, h2⟩ := parts_run f hq
        obtain ⟨h3, h4⟩ := opd_run f hx
        refine ⟨by rw [List.map_cons, List.map_cons, h1, h3], fun p hp => ?_⟩
        rcases List.mem_cons.1 hp with rfl | hp
        · exact h4
        · exact h2 p hp
      · cases hv
    · cases hv
theorem placesE_run (K : TyOk P Ty) : ∀ {l : List Field} {pl : List (Nat × Nat)}, placesE Ty l = some pl → l.mapM (fun f => (P.info? f.type).map fun i => (f.offset, i.size)) = some pl
  | [], pl, hv => by
    replace hv := Option.some.inj hv; subst hv
    rfl
  | f :: l, pl, hv => by
    replace hv : (match szE Ty f.type with
      | some s => match placesE Ty l with
        | some l => some ((f.offset, s) :: l)
        | none => none
      | none => none) = some pl := hv
    split at hv
    · rename_i s hs
      split at hv
      · rename_i ql hq
        injection hv with hv; subst hv
        obtain ⟨i, hi, rfl⟩ := K.sz hs
        rw [List.mapM_cons, placesE_run K hq, hi]
        rfl
      · cases hv
    · cases hv
theorem TyOk.zeroI (K : TyOk P Ty) {t : TypeId} {z : Value} (h : zerE Ty t = some z) : ∃ i, P.info? t = some i ∧ i.zero = some z := by
  unfold zerE at h
  cases hi : Tr.get 10 Ty t with
  | none => rw [hi] at h; cases h
  | some i => rw [hi] at h; exact ⟨i, K.info t i hi, h⟩
theorem opBuild_run (K : TyOk P Ty) (f : RepF e h.nx F a) {t : TypeId} {ps : Array (Nat × Operand)} (hv : opBuild Ty F h t ps = some (v, h')) (ho : o.op = .build t ps) : QR P e h a o w v ∧ h' = h := by
  unfold opBuild at hv
  split at hv
  · rename_i l hl
    obtain ⟨hz, rfl⟩ := with_some hv
    obtain ⟨h1, h2⟩ := parts_run f hl
    have hparts : (ps.map fun (i, x) => (i, a.eval x)) = (l.map fun p => (p.1, RV.tr e p.2)).toArray := by
      rw [← h1, ← Array.toList_map, Array.toArray_toList]
    unfold evBuild at hz
    split at hz
    · rename_i fs z hu hzz
      split at hz
      · rename_i pl hpl
        obtain ⟨cs, hcs, rfl⟩ := some_map hz
        obtain ⟨i, hi, hiz⟩ := K.zeroI hzz
        obtain ⟨g1, g2⟩ := fillS_run e (place' := fun i => pl.toArray[i]?) (fun i q hq => by rw [List.getElem?_toArray]; exact hq) hcs
        refine ⟨⟨?_, (g2 _ (pack_lt _) h2)⟩, rfl⟩
        unfold execOp; rw [ho]
        refine run_value ?_
        rw [hparts]
        refine run_build w t _ _ ?_
        unfold Program.built
        simp only [hi, K.und hu, hiz, placesE_run K hpl]
        rw [pack_tr, Array.toArray_toList] at g1
        exact g1
      · cases hz
    · rename_i n el z hu hzz
      split at hz
      · rename_i s hs
        obtain ⟨cs, hcs, rfl⟩ := some_map hz
        obtain ⟨i, hi, hiz⟩ := K.zeroI hzz
        obtain ⟨ie, hie, rfl⟩ := K.sz hs
        obtain ⟨g1, g2⟩ := fillS_run e (place' := fun i => some (i * ie.size, ie.size)) (fun i q hq => hq) hcs
        refine ⟨⟨?_, (g2 _ (pack_lt _) h2)⟩, rfl⟩
        unfold execOp; rw [ho]
        refine run_value ?_
        rw [hparts]
        refine run_build w t _ _ ?_
        unfold Program.built
        simp only [hi, K.und hu, hiz, hie]
        rw [pack_tr, Array.toArray_toList] at g1
        exact g1
      · cases hz
    · cases hz
  · cases hv
theorem opBuildSlice_run (K : TyOk P Ty) (r : RepH B w0 e h w) (f : RepF e h.nx F a) {t : TypeId} {n : Nat} {ps : Array (Nat × Operand)} (hv : opBuildSlice Ty F h t n ps = some (v, h')) (ho : o.op = .buildSlice t n ps) : OpR P B w0 e h a o w v h' := by
  unfold opBuildSlice at hv
  split at hv
  · rename_i l hl
    obtain ⟨h1, h2⟩ := parts_run f hl
    have hparts : (ps.map fun (i, x) => (i, a.eval x)) = (l.map fun p => (p.1, RV.tr e p.2)).toArray := by
      rw [← h1, ← Array.toList_map, Array.toArray_toList]
    unfold evBuildSlice at hv
    split at hv
    · rename_i el hu
      split at hv
      · rename_i z s hz hs hroom
        split at hv
        · rename_i b1 b2
          obtain ⟨cs, hcs, hh⟩ := some_map hv
          injection hh with e1 e2; subst e1 e2
          have b1 := Nat.le_of_ble_eq_true b1
          have b2 := Nat.eq_of_beq_eq_true b2
          obtain ⟨i, hi, hiz⟩ := K.zeroI hz
          obtain ⟨ie, hie, hsz'⟩ := K.sz hs
          have hsz : ie.size = s + 1 := hsz'
          obtain rfl : i = ie := by rw [hi] at hie; injection hie
          have hx := Nv.put_ext e h.nx w.heap.size 0
          obtain ⟨g1, g2⟩ := fillS_run (e.put h.nx w.heap.size 0) (place' := fun j => some (j * i.size, i.size)) (fun j q hq => by rw [hsz]; exact hq) hcs
          have hlt := g2 h.nx (timesS_lt (pack_lt _) n) h2
          have hps : (l.map fun p => (p.1, RV.tr e p.2)) = l.map fun p => (p.1, RV.tr (e.put h.nx w.heap.size 0) p.2) :=
            List.map_congr_left fun p hp => by rw [RV.tr_ext hx p.2 (h2 p hp)]
          have hrun : (Instr.buildSlice t n (l.map fun p => (p.1, RV.tr e p.2)).toArray).run P w = .ok (.slice (some ⟨w.heap.size, 0, none⟩) n n) (w.alloc (.cells (trS (e.put h.nx w.heap.size 0) cs).toArray el)) := by
            rw [timesS_tr, pack_tr, ← made_fold, b2, ← hsz, ← hps] at g1
            rcases Nat.eq_zero_or_pos n with h0 | h0
            · subst h0
              have hm : madeCells z.cells (0 * i.size) = #[] := by simp [madeCells]
              rw [hm] at g1
              have e0 : Array.map (fun _ => (default : Value)) (Array.range 0) = #[] := by simp
              simp only [Instr.buildSlice, run_underlying (K.und hu), sizeOf, typeInfo, Sem.run_bind, Result.andThen_ok, Sem.run_pure]
              simp [hi, newRow]
              rw [e0, g1]
              rfl
            · refine run_buildSlice w t el n _ _ i z (K.und hu) hi hiz ?_ ?_ g1
              · rw [hsz]; omega
              · have : 0 < n * i.size := Nat.mul_pos h0 (by omega)
                omega
          refine ⟨e.put h.nx w.heap.size 0, w.alloc (.cells (trS (e.put h.nx w.heap.size 0) cs).toArray el), .inl ?_, hx, r.make 0 (Hp.room_lt hroom) ⟨(0, 0), rfl, frz_zero _⟩ (ltS_mono (Nat.le_succ _) _ hlt), Nat.le_succ _, Nat.lt_succ_self _⟩
          unfold execOp; rw [ho]
          refine run_value ?_
          rw [hparts, hrun]
          simp only [RV.tr, Nv.put, if_true]
        · cases hv
      · cases hv
    · cases hv
  · cases hv
end
end Go.Proofs.YtkjgmakaidfgaaaGreatDoor
