/- The evaluator: maps; conversions. -/
import Derived.Test.YtkjgmakaidfgaaaGreatDoorEvw
import Derived.Laws.Strings
namespace Go.Proofs.YtkjgmakaidfgaaaGreatDoor
open Go.RowKit
open Go.MapKept (IsKey bytes_beq run_checkKey run_findKey run_keyThatStays run_setObj_map)

section
variable {P : Program} {Ty : Tr TypeInfo} {B : Nat → Prop} {w0 w : World} {e : Nv} {h h' : Hp} {F : Fr} {a : Act} {o : Oper} {v : RV}
theorem keyT_is (e : Nv) {d : TypeDesc} {k : RV} (hk : keyT d k = true) : IsKey d (RV.tr e k) := by
  unfold keyT at hk
  split at hk <;> first
    | (cases hk; done)
    | exact (of_decide_eq_true hk).symm
    | trivial
theorem bytes_data {x y : ByteArray} : (x.data.toList == y.data.toList) = (x == y) := by
  have h1 : (x.data.toList == y.data.toList) = true ↔ (x == y) = true := by
    rw [bytes_beq]
    constructor
    · intro h
      have h := eq_of_beq h
      cases x; cases y
      congr 1
      exact Array.ext' h
    · intro h; subst h; simp
  cases h2 : (x.data.toList == y.data.toList) <;> cases h3 : (x == y) <;> simp_all
theorem keyEq_now (e : Nv) {d : TypeDesc} {k x : RV} {b : Bool} (hk : keyT d k = true) (hb : keyEq k x = some b) : Instr.sameNow d (RV.tr e k) (RV.tr e x) = some b ∧ (b = true → RV.tr e k = RV.tr e x) := by
  unfold keyEq at hb
  split at hb
  · rename_i j p k' q
    split at hb
    · rename_i hj
      obtain rfl := of_decide_eq_true hj
      injection hb with hb; subst hb
      cases d <;> simp [keyT] at hk
      refine ⟨by simp [RV.tr, Instr.sameNow], fun h => ?_⟩
      have := eq_of_beq h
      simp [RV.tr, this]
    · cases hb
  · rename_i p q
    injection hb with hb; subst hb
    cases d <;> simp [keyT] at hk
    rw [bytes_data]
    refine ⟨by simp [RV.tr, Instr.sameNow], fun h => ?_⟩
    have := (bytes_beq p q).1 h
    simp [RV.tr, this]
  · rename_i p q
    injection hb with hb; subst hb
    cases d <;> simp [keyT] at hk
    refine ⟨by simp [RV.tr, Instr.sameNow], fun h => ?_⟩
    have := eq_of_beq h
    simp [RV.tr, this]
  · cases hb
theorem findE_now (e : Nv) {d : TypeDesc} {k : RV} (hk : keyT d k = true) : ∀ {es : List (RV × RV × Nat)} {i : Nat} {z : Option (Nat × RV)}, findE k es i = some z →
    Instr.findNow d (RV.tr e k) (es.map (trE e)) i = some (z.map fun p => (p.1, RV.tr e p.2)) ∧
    (∀ j u, z = some (j, u) → ∃ n x, j = i + n ∧ es[n]? = some x ∧ RV.tr e x.1 = RV.tr e k ∧ u = x.2.1)
  | [], i, z, hv => by
    injection hv with hv; subst hv
    exact ⟨rfl, fun j u hju => by cases hju⟩
  | x :: es, i, z, hv => by
    unfold findE at hv
    rw [List.map_cons]
    unfold Instr.findNow
    split at hv
    · rename_i hx
      injection hv with hv; subst hv
      obtain ⟨h1, h2⟩ := keyEq_now e hk hx
      refine ⟨?_, fun j u hju => ?_⟩
      · simp only [trE, h1, Option.map_some]
      · injection hju with hju
        injection hju with e1 e2
        exact ⟨0, x, by omega, rfl, (h2 rfl).symm, e2.symm⟩
    · rename_i hx
      obtain ⟨h1, _⟩ := keyEq_now e hk hx
      obtain ⟨g1, g2⟩ := findE_now e hk hv
      refine ⟨?_, fun j u hju => ?_⟩
      · simp only [trE, h1]
        exact g1
      · obtain ⟨n, y, e1, e2, e3, e4⟩ := g2 j u hju
        exact ⟨n + 1, y, by omega, by rw [List.getElem?_cons_succ]; exact e2, e3, e4⟩
    · cases hv
theorem zeroV_tr (e : Nv) (z : Value) : RV.tr e (zeroV z) = z ∧ ∀ n, RV.lt n (zeroV z) := by
  unfold zeroV
  split
  · exact ⟨by simp only [RV.tr, pack_tr, Array.toArray_toList], fun n => pack_lt _⟩
  · exact ⟨rfl, fun n => trivial⟩
theorem map_lt (r : RepH B w0 e h w) {b : Nat} {es : List (RV × RV × Nat)} {c : Nat} (hb : h.at? b = some (.map es c)) : ∀ x ∈ es, RV.lt h.nx x.1 ∧ RV.lt h.nx x.2.1 := (r.obj b _ hb).2.2.2
theorem mapAt_run (r : RepH B w0 e h w) {m : RV} {es : List (RV × RV × Nat)} (hm : mapAt h m = some es) :
    ((RV.tr e m = .map none ∧ es = []) ∨ ∃ q c, RV.tr e m = .map (some q) ∧ (getObj q).run P w = .ok (.map (es.map (trE e)).toArray c) w) ∧ ∀ x ∈ es, RV.lt h.nx x.1 ∧ RV.lt h.nx x.2.1 := by
  unfold mapAt at hm
  split at hm
  · injection hm with hm; subst hm
    exact ⟨.inl ⟨rfl, rfl⟩, fun x hx => by cases hx⟩
  · rename_i b
    split at hm
    · rename_i es' c hb
      injection hm with hm; subst hm
      exact ⟨.inr ⟨_, c, rfl, MapKept.run_getObj_map (r.obj b _ hb).2.2.1⟩, map_lt r hb⟩
    · cases hm
  · cases hm
theorem okV_tr (e : Nv) (ok b : Bool) (v : RV) : RV.tr e (okV ok v b) = (if ok then .tuple #[RV.tr e v, .bool b] else RV.tr e v) := by
  cases ok <;> simp [okV, RV.tr, trL]
theorem okV_lt {n : Nat} {ok b : Bool} {v : RV} (h : RV.lt n v) : RV.lt n (okV ok v b) := by
  cases ok
  · exact h
  · exact ⟨h, trivial, trivial⟩
theorem evLookup_run (K : TyOk P Ty) (r : RepH B w0 e h w) {t : TypeId} {m k : RV} {ok : Bool} (hv : evLookup Ty h t m k ok = some v) :
    (Instr.lookup t (RV.tr e m) (RV.tr e k) ok).run P w = .ok (RV.tr e v) w ∧ RV.lt h.nx v := by
  unfold evLookup at hv
  split at hv
  · rename_i kt el hu
    split at hv
    · rename_i d z es hd hz hm
      obtain ⟨h1, h2⟩ := mapAt_run (P := P) r hm
      have key : ∀ (q : Option (Nat × RV)), keyT d k = true → findE k es 0 = some q →
          (Instr.lookup t (RV.tr e m) (RV.tr e k) ok).run P w = .ok (match q with
            | none => if ok then .tuple #[z, .bool false] else z
            | some p => if ok then .tuple #[RV.tr e p.2, .bool true] else RV.tr e p.2) w := by
        intro q hk hq
        have hf := (findE_now e hk hq).1
        have hck := run_checkKey (P := P) (w := w) (K.und hd) (keyT_is e hk) ((es.map (trE e)).toArray.isEmpty) 9999
        have hfk := run_findKey (P := P) (w := w) (kt := kt) (K.und hd) hf
        unfold Instr.lookup
        rcases h1 with ⟨g1, g2⟩ | ⟨q', c, g1, g2⟩
        · subst g2
          obtain rfl : q = none := by
            unfold findE at hq
            injection hq with hq; exact hq.symm
          rw [g1]
          simp only [List.map_nil] at hck hfk
          simp only [Sem.run_bind, K.undRun hu, Result.andThen_ok, Sem.run_pure, hck, hfk, Option.map_none, K.zero hz]
        · rw [g1]
          simp only [Sem.run_bind, K.undRun hu, Result.andThen_ok, Sem.run_pure, g2, hck, hfk]
          cases q with
          | none => simp only [Option.map_none, Sem.run_bind, K.zero hz, Result.andThen_ok, Sem.run_pure]
          | some p => simp only [Option.map_some, Sem.run_bind, Result.andThen_ok, Sem.run_pure]
      split at hv
      · rename_i hk hq
        injection hv with hv; subst hv
        obtain ⟨z1, z2⟩ := zeroV_tr e z
        refine ⟨(key _ hk hq).trans ?_, okV_lt (z2 _)⟩
        rw [okV_tr, z1]
      · rename_i i v' hk hq
        injection hv with hv; subst hv
        refine ⟨(key _ hk hq).trans ?_, okV_lt ?_⟩
        · rw [okV_tr]
        · obtain ⟨n, x, _, hx, _, rfl⟩ := (findE_now e hk hq).2 _ _ rfl
          exact (h2 x (List.mem_of_getElem? hx)).2
      · cases hv
    · cases hv
  · cases hv
theorem opLook_run (K : TyOk P Ty) (r : RepH B w0 e h w) (f : RepF e h.nx F a) {t : TypeId} {m k : Operand} {ok : Bool} (hv : opLook Ty F h t m k ok = some (v, h')) (ho : o.op = .lookup t m k ok) : QR P e h a o w v ∧ h' = h := by
  unfold opLook at hv
  split at hv
  · rename_i p hp
    split at hv
    · rename_i q hq
      obtain ⟨h2, rfl⟩ := with_some hv
      obtain ⟨hr, hl⟩ := evLookup_run K r h2
      refine ⟨⟨?_, hl⟩, rfl⟩
      unfold execOp; rw [ho]
      simp only [(opd_run f hp).1, (opd_run f hq).1]
      exact run_value hr
    · cases hv
  · cases hv
theorem setNth_map (e : Nv) (v : RV) : ∀ (es : List (RV × RV × Nat)) (i : Nat), (setNth v es i).map (trE e) = (es.map (trE e)).modify i (fun x => { x with val := RV.tr e v })
  | [], i => by simp [setNth]
  | x :: es, 0 => by simp [setNth, trE]
  | x :: es, i + 1 => by simp [setNth, setNth_map e v es i]
theorem setNth_mem {v : RV} : ∀ {es : List (RV × RV × Nat)} {i : Nat} {y : RV × RV × Nat}, y ∈ setNth v es i → ∃ x ∈ es, y.1 = x.1 ∧ (y.2.1 = x.2.1 ∨ y.2.1 = v)
  | [], i, y, hy => by simp [setNth] at hy
  | x :: es, 0, y, hy => by
    rcases List.mem_cons.1 hy with rfl | hy
    · exact ⟨x, List.mem_cons_self .., rfl, .inr rfl⟩
    · exact ⟨y, List.mem_cons_of_mem _ hy, rfl, .inl rfl⟩
  | x :: es, i + 1, y, hy => by
    rcases List.mem_cons.1 hy with rfl | hy
    · exact ⟨y, List.mem_cons_self .., rfl, .inl rfl⟩
    · obtain ⟨x', h1, h2⟩ := setNth_mem hy
      exact ⟨x', List.mem_cons_of_mem _ h1, h2⟩
theorem evMapUpd_run (K : TyOk P Ty) (r : RepH B w0 e h w) {t : TypeId} {m k x : RV} (hkl : RV.lt h.nx k) (hxl : RV.lt h.nx x) (hv : evMapUpd Ty h t m k x = some h') :
    ∃ w', (Instr.mapUpdate t (RV.tr e m) (RV.tr e k) (RV.tr e x)).run P w = .ok () w' ∧ RepH B w0 e h' w' ∧ h'.nx = h.nx := by
  unfold evMapUpd at hv
  split at hv
  · rename_i kt el hu
    split at hv
    · rename_i d b hd
      split at hv
      · rename_i es c hb hk
        have hblk : w.heap[e.at_ b]? = some (.map (es.map (trE e)).toArray c) := (r.obj b _ hb).2.2.1
        have hck := run_checkKey (P := P) (w := w) (K.und hd) (keyT_is e hk) false 9999
        have hmem := map_lt r hb
        split at hv
        · rename_i hq
          injection hv with hv; subst hv
          have hfk := run_findKey (P := P) (w := w) (kt := kt) (K.und hd) (findE_now e hk hq).1
          refine ⟨_, ?_, r.setObj (x := .map ((es ++ [(k, x, c)]).map (trE e)).toArray (c + 1)) hb rfl ?_, rfl⟩
          · unfold Instr.mapUpdate
            simp only [RV.tr, Sem.run_bind, K.undRun hu, Result.andThen_ok, MapKept.run_getObj_map hblk, hck, hfk, Option.map_none]
            rw [run_setObj_map _ hblk]
            simp [trE]
          · intro y hy
            rcases List.mem_append.1 hy with hy | hy
            · exact hmem y hy
            · obtain rfl := List.mem_singleton.1 hy
              exact ⟨hkl, hxl⟩
        · rename_i i u hq
          injection hv with hv; subst hv
          obtain ⟨hf1, hf2⟩ := findE_now e hk hq
          obtain ⟨n, y, hi, hy, hye, _⟩ := hf2 i u rfl
          obtain rfl : i = n := by omega
          have hfk := run_findKey (P := P) (w := w) (kt := kt) (K.und hd) hf1
          refine ⟨_, ?_, r.setObj (x := .map ((setNth x es i).map (trE e)).toArray c) hb rfl ?_, rfl⟩
          · unfold Instr.mapUpdate
            have hget : (es.map (trE e)).toArray[i]? = some (trE e y) := by rw [List.getElem?_toArray, List.getElem?_map, hy]; rfl
            have hks : ((((es.map (trE e)).toArray[i]?).map (·.key)).getD (RV.tr e k)) = RV.tr e k := by rw [hget]; exact hye
            simp only [RV.tr, Sem.run_bind, K.undRun hu, Result.andThen_ok, MapKept.run_getObj_map hblk, hck, hfk, Option.map_some, hks, run_keyThatStays (P := P) (w := w) (keyT_is e hk)]
            rw [run_setObj_map _ hblk]
            congr 3
            rw [setNth_map]
            have hm : ((es.map (trE e)).toArray.modify i fun x_1 => { x_1 with key := RV.tr e k, val := RV.tr e x }) = ((es.map (trE e)).modify i fun x_1 => { x_1 with val := RV.tr e x }).toArray := by
              apply Array.ext'
              rw [Array.toList_modify]
              apply List.ext_getElem?
              intro j
              rw [List.getElem?_modify, List.getElem?_modify]
              by_cases hij : i = j
              · subst hij
                have h2 : (es.map (trE e))[i]? = some (trE e y) := by rw [List.getElem?_map, hy]; rfl
                simp only [if_true, h2]
                simp [trE, hye]
              · simp [hij]
            rw [hm]
          · intro z hz
            obtain ⟨q, hq1, hq2, hq3⟩ := setNth_mem hz
            refine ⟨by rw [hq2]; exact (hmem q hq1).1, ?_⟩
            rcases hq3 with hq3 | hq3
            · rw [hq3]; exact (hmem q hq1).2
            · rw [hq3]; exact hxl
        · cases hv
      · cases hv
    · cases hv
  · cases hv
theorem opUpd_run (K : TyOk P Ty) (r : RepH B w0 e h w) (f : RepF e h.nx F a) {t : TypeId} {m k x : Operand} (hv : opUpd Ty F h t m k x = some (v, h')) (ho : o.op = .mapUpdate t m k x ∨ o.op = .insert t m k x) : OpR P B w0 e h a o w v h' := by
  unfold opUpd at hv
  split at hv
  · rename_i p hp
    split at hv
    · rename_i q hq
      split at hv
      · rename_i s hs
        obtain ⟨h2, rfl⟩ := done_some hv
        obtain ⟨w', hr, r', hn⟩ := evMapUpd_run K r (opd_run f hq).2 (opd_run f hs).2 h2
        refine ⟨e, w', .inr ⟨?_, rfl⟩, Nv.ext.refl _ _, r', Nat.le_of_eq hn.symm, trivial⟩
        rcases ho with ho | ho <;>
          (unfold execOp; rw [ho]
           simp only [(opd_run f hp).1, (opd_run f hq).1, (opd_run f hs).1]
           exact run_skip hr)
      · cases hv
    · cases hv
  · cases hv
end
end Go.Proofs.YtkjgmakaidfgaaaGreatDoor
