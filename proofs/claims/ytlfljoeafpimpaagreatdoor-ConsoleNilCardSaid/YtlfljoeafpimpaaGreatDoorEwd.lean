/- The evaluator: maps; conversions. The evaluator: conversions. The evaluator: delete; walks over maps that have an entry at most. -/
import Derived.Test.YtlfljoeafpimpaaGreatDoorEvw
import Derived.Laws.Strings
import Derived.Maps.RangeRun
namespace Go.Proofs.YtlfljoeafpimpaaGreatDoor
open Go.RowKit
open Go.MapKept (IsKey bytes_beq run_checkKey run_findKey run_keyThatStays run_setObj_map)

section
variable {P : Program} {Ty : Tr TypeInfo} {B : Nat → Prop} {w0 w : World} {e : Nv} {h h' : Hp} {F : Fr} {a : Act} {o : Oper} {v : RV}
theorem keyT_is (e : Nv) {d : TypeDesc} {k : RV} (hk : keyT d k = true) : IsKey d (RV.tr e k) := by
  unfold keyT at hk
  split at hk <;> first
    | (cases hk; done)
    | exact (of_decide_eq_true hk).symm
    | trivial
theorem bytes_data {x y : ByteArray} : (x.data.toList == y.data.toList) = (x == y) := by
  have h1 : (x.data.toList == y.data.toList) = true ↔ (x == y) = true := by
    rw [bytes_beq]
    constructor
    · intro h
      have h := eq_of_beq h
      cases x; cases y
      congr 1
      exact Array.ext' h
    · intro h; subst h; simp
  cases h2 : (x.data.toList == y.data.toList) <;> cases h3 : (x == y) <;> simp_all
theorem keyEq_now (e : Nv) {d : TypeDesc} {k x : RV} {b : Bool} (hk : keyT d k = true) (hb : keyEq k x = some b) : Instr.sameNow d (RV.tr e k) (RV.tr e x) = some b ∧ (b = true → RV.tr e k = RV.tr e x) := by
  unfold keyEq at hb
  split at hb
  · rename_i j p k' q
    split at hb
    · rename_i hj
      obtain rfl := of_decide_eq_true hj
      injection hb with hb; subst hb
      cases d <;> simp [keyT] at hk
      refine ⟨by simp [RV.tr, Instr.sameNow], fun h => ?_⟩
      have := eq_of_beq h
      simp [RV.tr, this]
    · cases hb
  · rename_i p q
    injection hb with hb; subst hb
    cases d <;> simp [keyT] at hk
    rw [bytes_data]
    refine ⟨by simp [RV.tr, Instr.sameNow], fun h => ?_⟩
    have := (bytes_beq p q).1 h
    simp [RV.tr, this]
  · rename_i p q
    injection hb with hb; subst hb
    cases d <;> simp [keyT] at hk
    refine ⟨by simp [RV.tr, Instr.sameNow], fun h => ?_⟩
    have := eq_of_beq h
    simp [RV.tr, this]
  · rename_i c n q
    injection hb with hb; subst hb
    cases d <;> simp [keyT] at hk
    have h1 := rstEq_is c n q.data.toList
    refine ⟨?_, fun h => ?_⟩
    · have h2 : (List.replicate n c == q.data.toList) = ((⟨⟨List.replicate n c⟩⟩ : ByteArray) == q) := bytes_data (x := ⟨⟨List.replicate n c⟩⟩) (y := q)
      rw [h1, h2]
      simp [RV.tr, Instr.sameNow]
    · rw [h1] at h
      have h2 := eq_of_beq h
      simp only [RV.tr, h2]
  · cases hb
theorem findE_now (e : Nv) {d : TypeDesc} {k : RV} (hk : keyT d k = true) : ∀ {es : List (RV × RV × Nat)} {i : Nat} {z : Option (Nat × RV)}, findE k es i = some z →
    Instr.findNow d (RV.tr e k) (es.map (trE e)) i = some (z.map fun p => (p.1, RV.tr e p.2)) ∧
    (∀ j u, z = some (j, u) → ∃ n x, j = i + n ∧ es[n]? = some x ∧ RV.tr e x.1 = RV.tr e k ∧ u = x.2.1)
  | [], i, z, hv => by
    injection hv with hv; subst hv
    exact ⟨rfl, fun j u hju => by cases hju⟩
  | x :: es, i, z, hv => by
    unfold findE at hv
    rw [List.map_cons]
    unfold Instr.findNow
    split at hv
    · rename_i hx
      injection hv with hv; subst hv
      obtain ⟨h1, h2⟩ := keyEq_now e hk hx
      refine ⟨?_, fun j u hju => ?_⟩
      · simp only [trE, h1, Option.map_some]
      · injection hju with hju
        injection hju with e1 e2
        exact ⟨0, x, by omega, rfl, (h2 rfl).symm, e2.symm⟩
    · rename_i hx
      obtain ⟨h1, _⟩ := keyEq_now e hk hx
      obtain ⟨g1, g2⟩ := findE_now e hk hv
      refine ⟨?_, fun j u hju => ?_⟩
      · simp only [trE, h1]
        exact g1
      · obtain ⟨n, y, e1, e2, e3, e4⟩ := g2 j u hju
        exact ⟨n + 1, y, by omega, by rw [List.getElem?_cons_succ]; exact e2, e3, e4⟩
    · cases hv
theorem zeroV_tr (e : Nv) (z : Value) : RV.tr e (zeroV z) = z ∧ ∀ n, RV.lt n (zeroV z) := by
  unfold zeroV
  split
  · exact ⟨by simp only [RV.tr, pack_tr, Array.toArray_toList], fun n => pack_lt _⟩
  · exact ⟨rfl, fun n => trivial⟩
theorem map_lt (r : RepH B w0 e h w) {b : Nat} {es : List (RV × RV × Nat)} {c : Nat} (hb : h.at? b = some (.map es c)) : ∀ x ∈ es, RV.lt h.nx x.1 ∧ RV.lt h.nx x.2.1 := (r.obj b _ hb).2.2.2
theorem mapAt_run (r : RepH B w0 e h w) {m : RV} {es : List (RV × RV × Nat)} (hm : mapAt h m = some es) :
    ((RV.tr e m = .map none ∧ es = []) ∨ ∃ q c, RV.tr e m = .map (some q) ∧ (getObj q).run P w = .ok (.map (es.map (trE e)).toArray c) w) ∧ ∀ x ∈ es, RV.lt h.nx x.1 ∧ RV.lt h.nx x.2.1 := by
  unfold mapAt at hm
  split at hm
  · injection hm with hm; subst hm
    exact ⟨.inl ⟨rfl, rfl⟩, fun x hx => by cases hx⟩
  · rename_i b
    split at hm
    · rename_i es' c hb
      injection hm with hm; subst hm
      exact ⟨.inr ⟨_, c, rfl, MapKept.run_getObj_map (r.obj b _ hb).2.2.1⟩, map_lt r hb⟩
    · cases hm
  · cases hm
theorem okV_tr (e : Nv) (ok b : Bool) (v : RV) : RV.tr e (okV ok v b) = (if ok then .tuple #[RV.tr e v, .bool b] else RV.tr e v) := by
  cases ok <;> simp [okV, RV.tr, trL]
theorem okV_lt {n : Nat} {ok b : Bool} {v : RV} (h : RV.lt n v) : RV.lt n (okV ok v b) := by
  cases ok
  · exact h
  · exact ⟨h, trivial, trivial⟩
theorem evLookup_run (K : TyOk P Ty) (r : RepH B w0 e h w) {t : TypeId} {m k : RV} {ok : Bool} (hv : evLookup Ty h t m k ok = some v) :
    (Instr.lookup t (RV.tr e m) (RV.tr e k) ok).run P w = .ok (RV.tr e v) w ∧ RV.lt h.nx v := by
  unfold evLookup at hv
  split at hv
  · rename_i kt el hu
    split at hv
    · rename_i d z es hd hz hm
      obtain ⟨h1, h2⟩ := mapAt_run (P := P) r hm
      have key : ∀ (q : Option (Nat × RV)), keyT d k = true → findE k es 0 = some q →
          (Instr.lookup t (RV.tr e m) (RV.tr e k) ok).run P w = .ok (match q with
            | none => if ok then .tuple #[z, .bool false] else z
            | some p => if ok then .tuple #[RV.tr e p.2, .bool true] else RV.tr e p.2) w := by
        intro q hk hq
        have hf := (findE_now e hk hq).1
        have hck := run_checkKey (P := P) (w := w) (K.und hd) (keyT_is e hk) ((es.map (trE e)).toArray.isEmpty) 9999
        have hfk := run_findKey (P := P) (w := w) (kt := kt) (K.und hd) hf
        unfold Instr.lookup
        rcases h1 with ⟨g1, g2⟩ | ⟨q', c, g1, g2⟩
        · subst g2
          obtain rfl : q = none := by
            unfold findE at hq
            injection hq with hq; exact hq.symm
          rw [g1]
          simp only [List.map_nil] at hck hfk
          simp only [Sem.run_bind, K.undRun hu, Result.andThen_ok, Sem.run_pure, hck, hfk, Option.map_none, K.zero hz]
        · rw [g1]
          simp only [Sem.run_bind, K.undRun hu, Result.andThen_ok, Sem.run_pure, g2, hck, hfk]
          cases q with
          | none => simp only [Option.map_none, Sem.run_bind, K.zero hz, Result.andThen_ok, Sem.run_pure]
          | some p => simp only [Option.map_some, Sem.run_bind, Result.andThen_ok, Sem.run_pure]
      split at hv
      · rename_i hk hq
        injection hv with hv; subst hv
        obtain ⟨z1, z2⟩ := zeroV_tr e z
        refine ⟨(key _ hk hq).trans ?_, okV_lt (z2 _)⟩
        rw [okV_tr, z1]
      · rename_i i v' hk hq
        injection hv with hv; subst hv
        refine ⟨(key _ hk hq).trans ?_, okV_lt ?_⟩
        · rw [okV_tr]
        · obtain ⟨n, x, _, hx, _, rfl⟩ := (findE_now e hk hq).2 _ _ rfl
          exact (h2 x (List.mem_of_getElem? hx)).2
      · cases hv
    · cases hv
  · cases hv
theorem setNth_map (e : Nv) (v : RV) : ∀ (es : List (RV × RV × Nat)) (i : Nat), (setNth v es i).map (trE e) = (es.map (trE e)).modify i (fun x => { x with val := RV.tr e v })
  | [], i => by simp [setNth]
  | x :: es, 0 => by simp [setNth, trE]
  | x :: es, i + 1 => by simp [setNth, setNth_map e v es i]
theorem setNth_mem {v : RV} : ∀ {es : List (RV × RV × Nat)} {i : Nat} {y : RV × RV × Nat}, y ∈ setNth v es i → ∃ x ∈ es, y.1 = x.1 ∧ (y.2.1 = x.2.1 ∨ y.2.1 = v)
  | [], i, y, hy => by simp [setNth] at hy
  | x :: es, 0, y, hy => by
    rcases List.mem_cons.1 hy with rfl | hy
    · exact ⟨x, List.mem_cons_self .., rfl, .inr rfl⟩
    · exact ⟨y, List.mem_cons_of_mem _ hy, rfl, .inl rfl⟩
  | x :: es, i + 1, y, hy => by
    rcases List.mem_cons.1 hy with rfl | hy
    · exact ⟨y, List.mem_cons_self .., rfl, .inl rfl⟩
    · obtain ⟨x', h1, h2⟩ := setNth_mem hy
      exact ⟨x', List.mem_cons_of_mem _ h1, h2⟩
theorem evMapUpd_run (K : TyOk P Ty) (r : RepH B w0 e h w) {t : TypeId} {m k x : RV} (hkl : RV.lt h.nx k) (hxl : RV.lt h.nx x) (hv : evMapUpd Ty h t m k x = some h') :
    ∃ w', (Instr.mapUpdate t (RV.tr e m) (RV.tr e k) (RV.tr e x)).run P w = .ok () w' ∧ RepH B w0 e h' w' ∧ h'.nx = h.nx := by
  unfold evMapUpd at hv
  split at hv
  · rename_i kt el hu
    split at hv
    · rename_i d b hd
      split at hv
      · rename_i es c hb hk
        have hblk : w.heap[e.at_ b]? = some (.map (es.map (trE e)).toArray c) := (r.obj b _ hb).2.2.1
        have hck := run_checkKey (P := P) (w := w) (K.und hd) (keyT_is e hk) false 9999
        have hmem := map_lt r hb
        split at hv
        · rename_i hq
          injection hv with hv; subst hv
          have hfk := run_findKey (P := P) (w := w) (kt := kt) (K.und hd) (findE_now e hk hq).1
          refine ⟨_, ?_, r.setObj (x := .map ((es ++ [(k, x, c)]).map (trE e)).toArray (c + 1)) hb rfl ?_, rfl⟩
          · unfold Instr.mapUpdate
            simp only [RV.tr, Sem.run_bind, K.undRun hu, Result.andThen_ok, MapKept.run_getObj_map hblk, hck, hfk, Option.map_none]
            rw [run_setObj_map _ hblk]
            simp [trE]
          · intro y hy
            rcases List.mem_append.1 hy with hy | hy
            · exact hmem y hy
            · obtain rfl := List.mem_singleton.1 hy
              exact ⟨hkl, hxl⟩
        · rename_i i u hq
          injection hv with hv; subst hv
          obtain ⟨hf1, hf2⟩ := findE_now e hk hq
          obtain ⟨n, y, hi, hy, hye, _⟩ := hf2 i u rfl
          obtain rfl : i = n := by omega
          have hfk := run_findKey (P := P) (w := w) (kt := kt) (K.und hd) hf1
          refine ⟨_, ?_, r.setObj (x := .map ((setNth x es i).map (trE e)).toArray c) hb rfl ?_, rfl⟩
          · unfold Instr.mapUpdate
            have hget : (es.map (trE e)).toArray[i]? = some (trE e y) := by rw [List.getElem?_toArray, List.getElem?_map, hy]; rfl
            have hks : ((((es.map (trE e)).toArray[i]?).map (·.key)).getD (RV.tr e k)) = RV.tr e k := by rw [hget]; exact hye
            simp only [RV.tr, Sem.run_bind, K.undRun hu, Result.andThen_ok, MapKept.run_getObj_map hblk, hck, hfk, Option.map_some, hks, run_keyThatStays (P := P) (w := w) (keyT_is e hk)]
            rw [run_setObj_map _ hblk]
            congr 3
            rw [setNth_map]
            have hm : ((es.map (trE e)).toArray.modify i fun x_1 => { x_1 with key := RV.tr e k, val := RV.tr e x }) = ((es.map (trE e)).modify i fun x_1 => { x_1 with val := RV.tr e x }).toArray := by
              apply Array.ext'
              rw [Array.toList_modify]
              apply List.ext_getElem?
              intro j
              rw [List.getElem?_modify, List.getElem?_modify]
              by_cases hij : i = j
              · subst hij
                have h2 : (es.map (trE e))[i]? = some (trE e y) := by rw [List.getElem?_map, hy]; rfl
                simp only [if_true, h2]
                simp [trE, hye]
              · simp [hij]
            rw [hm]
          · intro z hz
            obtain ⟨q, hq1, hq2, hq3⟩ := setNth_mem hz
            refine ⟨by rw [hq2]; exact (hmem q hq1).1, ?_⟩
            rcases hq3 with hq3 | hq3
            · rw [hq3]; exact (hmem q hq1).2
            · rw [hq3]; exact hxl
        · cases hv
      · cases hv
    · cases hv
  · cases hv
/-! ### maps whose keys are structs of plain values -/
theorem run_check_fields (K : TyOk P Ty) (em : Bool) (n : Nat) {kt : TypeId} {fs : Array Field} (hu : undE Ty kt = some (.struct fs)) {cs : List Seg} (hk : keyFs Ty cs fs.toList = true) :
    (Instr.checkKey em (n + 2) kt (.agg (trS e cs).toArray)).run P w = .ok () w := by
  rw [show n + 2 = (n + 1) + 1 from rfl, Instr.checkKey]
  simp only [Sem.run_bind, K.undRun hu, Result.andThen_ok]
  rw [← Array.forIn_toList]
  generalize fs.toList = L at hk
  induction L with
  | nil => simp
  | cons f L ih =>
    unfold keyFs at hk
    split at hk
    · rename_i x d hx hd
      split at hk
      · rename_i hkt
        have p1 := evPart_run' K (e := e) hx w
        have p2 := run_checkKey (P := P) (w := w) (K.und hd) (keyT_is e hkt) em n
        have ih := ih hk
        by_cases hn : f.name = "_"
        · simp only [List.forIn_cons, Sem.run_bind, hn, ne_eq, not_true_eq_false, if_false, Result.andThen_ok, Sem.run_pure]
          exact ih
        · simp only [List.forIn_cons, Sem.run_bind, hn, ne_eq, not_false_eq_true, if_true, Result.andThen_ok, p1, p2, Sem.run_pure]
          exact ih
      · cases hk
    · cases hk
theorem findA_run (K : TyOk P Ty) {flat : TypeId → Bool} (hfl : FlatOk P flat) {kt : TypeId} {k : RV} : ∀ {es : List (RV × RV × Nat)} {i : Nat} {z : Option (Nat × RV × RV)}, findA Ty flat kt k es i = some z →
    (Instr.findAsking kt (RV.tr e k) (es.map (trE e)) i).run P w = .ok (z.map fun p => (p.1, RV.tr e p.2.2)) w ∧
    (∀ j y u, z = some (j, y, u) → ∃ n x, j = i + n ∧ es[n]? = some x ∧ y = x.1 ∧ u = x.2.1)
  | [], i, z, hv => by
    injection hv with hv; subst hv
    exact ⟨by simp [Instr.findAsking], fun j y u hju => by cases hju⟩
  | x :: es, i, z, hv => by
    unfold findA at hv
    rw [List.map_cons]
    unfold Instr.findAsking
    split at hv
    · rename_i hx
      injection hv with hv; subst hv
      have h1 : (Op.equal kt (RV.tr e k) (RV.tr e x.1)).run P w = .ok true w := eqE_run K hfl 9991 w 9 hx
      refine ⟨?_, fun j y u hju => ?_⟩
      · simp only [trE, Sem.run_bind, h1, Result.andThen_ok, if_true, Sem.run_pure, Option.map_some]
      · injection hju with hju
        injection hju with e1 e2
        injection e2 with e2 e3
        exact ⟨0, x, by omega, rfl, e2.symm, e3.symm⟩
    · rename_i hx
      have h1 : (Op.equal kt (RV.tr e k) (RV.tr e x.1)).run P w = .ok false w := eqE_run K hfl 9991 w 9 hx
      obtain ⟨g1, g2⟩ := findA_run K hfl hv
      refine ⟨?_, fun j y u hju => ?_⟩
      · simp only [trE, Sem.run_bind, h1, Result.andThen_ok, Bool.false_eq_true, if_false]
        exact g1
      · obtain ⟨n, y', e1, e2, e3, e4⟩ := g2 j y u hju
        exact ⟨n + 1, y', by omega, by rw [List.getElem?_cons_succ]; exact e2, e3, e4⟩
    · cases hv
theorem run_findKey_struct (K : TyOk P Ty) {kt : TypeId} {fs : Array Field} (hu : undE Ty kt = some (.struct fs)) (x : Value) (es : List MapEntry) :
    (Instr.findKey kt x es).run P w = (Instr.findAsking kt x es).run P w := by
  cases es with
  | nil => simp [Instr.findKey, K.undRun hu, Instr.findNow, Instr.findAsking, Result.andThen]
  | cons y es => simp [Instr.findKey, K.undRun hu, Instr.findNow, Instr.sameNow, Result.andThen]
theorem keyAg_run (K : TyOk P Ty) {flat : TypeId → Bool} (hfl : FlatOk P flat) {kt : TypeId} {k : RV} (hk : keyAg Ty kt k = true) (em : Bool) {es : List (RV × RV × Nat)} {z : Option (Nat × RV × RV)} (hz : findA Ty flat kt k es 0 = some z) :
    (Instr.checkKey em 10000 kt (RV.tr e k)).run P w = .ok () w ∧ (Instr.findKey kt (RV.tr e k) (es.map (trE e))).run P w = .ok (z.map fun p => (p.1, RV.tr e p.2.2)) w := by
  unfold keyAg at hk
  split at hk
  · split at hk
    · rename_i fs hu
      refine ⟨?_, ?_⟩
      · simp only [RV.tr]
        exact run_check_fields K em 9998 hu hk
      · rw [run_findKey_struct K hu]
        exact (findA_run K hfl hz).1
    · cases hk
  · cases hk
theorem evLookA_run (K : TyOk P Ty) {flat : TypeId → Bool} (hfl : FlatOk P flat) (r : RepH B w0 e h w) {t : TypeId} {m k : RV} {ok : Bool} (hv : evLookA Ty flat h t m k ok = some v) :
    (Instr.lookup t (RV.tr e m) (RV.tr e k) ok).run P w = .ok (RV.tr e v) w ∧ RV.lt h.nx v := by
  unfold evLookA at hv
  split at hv
  · rename_i kt el hu
    split at hv
    · rename_i z es hz hm hk
      obtain ⟨h1, h2⟩ := mapAt_run (P := P) r hm
      have key : ∀ (q : Option (Nat × RV × RV)), findA Ty flat kt k es 0 = some q →
          (Instr.lookup t (RV.tr e m) (RV.tr e k) ok).run P w = .ok (match q with
            | none => if ok then .tuple #[z, .bool false] else z
            | some p => if ok then .tuple #[RV.tr e p.2.2, .bool true] else RV.tr e p.2.2) w := by
        intro q hq
        obtain ⟨hck, hfk⟩ := keyAg_run (w := w) (e := e) K hfl hk ((es.map (trE e)).toArray.isEmpty) hq
        unfold Instr.lookup
        rcases h1 with ⟨g1, g2⟩ | ⟨q', c, g1, g2⟩
        · subst g2
          obtain rfl : q = none := by
            unfold findA at hq
            injection hq with hq; exact hq.symm
          rw [g1]
          simp only [List.map_nil] at hck hfk
          simp only [Sem.run_bind, K.undRun hu, Result.andThen_ok, Sem.run_pure, hck, hfk, Option.map_none, K.zero hz]
        · rw [g1]
          simp only [Sem.run_bind, K.undRun hu, Result.andThen_ok, Sem.run_pure, g2, hck, hfk]
          cases q with
          | none => simp only [Option.map_none, Sem.run_bind, K.zero hz, Result.andThen_ok, Sem.run_pure]
          | some p => simp only [Option.map_some, Sem.run_bind, Result.andThen_ok, Sem.run_pure]
      split at hv
      · rename_i hq
        injection hv with hv; subst hv
        obtain ⟨z1, z2⟩ := zeroV_tr e z
        refine ⟨(key _ hq).trans ?_, okV_lt (z2 _)⟩
        rw [okV_tr, z1]
      · rename_i i y v' hq
        injection hv with hv; subst hv
        refine ⟨(key _ hq).trans ?_, okV_lt ?_⟩
        · rw [okV_tr]
        · obtain ⟨n, x, _, hx, _, rfl⟩ := (findA_run (w := w) (e := e) K hfl hq).2 _ _ _ rfl
          exact (h2 x (List.mem_of_getElem? hx)).2
      · cases hv
    · cases hv
  · cases hv
theorem plainSeg_same (e : Nv) (n : Nat) : ∀ {s : Seg}, plainSeg s = true → ∃ v, Seg.tr e s = [v] ∧ Instr.sameBits n v v = true
  | .one (.lit (.int k m)), _ => ⟨_, rfl, by simp [RV.tr, Instr.sameBits]⟩
  | .one (.lit (.bool b)), _ => ⟨_, rfl, by simp [RV.tr, Instr.sameBits]⟩
  | .one (.lit (.string t)), _ => ⟨_, rfl, by simp [RV.tr, Instr.sameBits, bytes_beq]⟩
theorem plainAg_same (e : Nv) {k : RV} (hk : plainAg k = true) : (Instr.keyThatStays (RV.tr e k) (RV.tr e k)).run P w = .ok (RV.tr e k) w := by
  unfold plainAg at hk
  split at hk
  · rename_i cs
    have : ∀ {cs : List Seg}, cs.all plainSeg = true → (((trS e cs).zip (trS e cs)).all fun x => Instr.sameBits 9999 x.1 x.2) = true := fun {cs} => by
      induction cs with
      | nil => intro _; rfl
      | cons s r ih =>
        intro h
        rw [List.all_cons, Bool.and_eq_true] at h
        obtain ⟨v, h1, h2⟩ := plainSeg_same e 9999 h.1
        rw [trS, h1, List.singleton_append, List.zip_cons_cons, List.all_cons, ih h.2, h2]; rfl
    have hs : Instr.sameBits 10000 (RV.tr e (.agg cs)) (RV.tr e (.agg cs)) = true := by
      simp only [RV.tr]
      rw [show (10000 : Nat) = 9999 + 1 from rfl, Instr.sameBits]
      simp only [beq_self_eq_true, Bool.true_and]
      exact this hk
    unfold Instr.keyThatStays
    rw [hs]; rfl
  · cases hk
theorem evUpdA_run (K : TyOk P Ty) {flat : TypeId → Bool} (hfl : FlatOk P flat) (r : RepH B w0 e h w) {t : TypeId} {m k x : RV} (hkl : RV.lt h.nx k) (hxl : RV.lt h.nx x) (hv : evUpdA Ty flat h t m k x = some h') :
    ∃ w', (Instr.mapUpdate t (RV.tr e m) (RV.tr e k) (RV.tr e x)).run P w = .ok () w' ∧ RepH B w0 e h' w' ∧ h'.nx = h.nx := by
  unfold evUpdA at hv
  split at hv
  · rename_i kt el b hu
    split at hv
    · rename_i es c hb hk
      have hblk : w.heap[e.at_ b]? = some (.map (es.map (trE e)).toArray c) := (r.obj b _ hb).2.2.1
      have hmem := map_lt r hb
      split at hv
      · rename_i hq
        injection hv with hv; subst hv
        obtain ⟨hck, hfk⟩ := keyAg_run (w := w) (e := e) K hfl hk false hq
        refine ⟨_, ?_, r.setObj (x := .map ((es ++ [(k, x, c)]).map (trE e)).toArray (c + 1)) hb rfl ?_, rfl⟩
        · unfold Instr.mapUpdate
          simp only [RV.tr, Sem.run_bind, K.undRun hu, Result.andThen_ok, MapKept.run_getObj_map hblk, hck, hfk, Option.map_none]
          rw [run_setObj_map _ hblk]
          simp [trE]
        · intro y hy
          rcases List.mem_append.1 hy with hy | hy
          · exact hmem y hy
          · obtain rfl := List.mem_singleton.1 hy
            exact ⟨hkl, hxl⟩
      · rename_i i y0 u hq
        split at hv
        · rename_i hpl hey
          injection hv with hv; subst hv
          have hey := eqRV_eq hey
          subst hey
          obtain ⟨hck, hfk⟩ := keyAg_run (w := w) (e := e) K hfl hk false hq
          obtain ⟨n, y, hi, hy, hye, _⟩ := (findA_run (w := w) (e := e) K hfl hq).2 _ _ _ rfl
          obtain rfl : i = n := by omega
          refine ⟨_, ?_, r.setObj (x := .map ((setNth x es i).map (trE e)).toArray c) hb rfl ?_, rfl⟩
          · unfold Instr.mapUpdate
            have hget : (es.map (trE e)).toArray[i]? = some (trE e y) := by rw [List.getElem?_toArray, List.getElem?_map, hy]; rfl
            have hks : ((((es.map (trE e)).toArray[i]?).map (·.key)).getD (RV.tr e y0)) = RV.tr e y0 := by rw [hget, hye]; rfl
            simp only [RV.tr, Sem.run_bind, K.undRun hu, Result.andThen_ok, MapKept.run_getObj_map hblk, hck, hfk, Option.map_some, hks, plainAg_same (P := P) (w := w) e hpl]
            rw [run_setObj_map _ hblk]
            congr 3
            rw [setNth_map]
            have hm : ((es.map (trE e)).toArray.modify i fun x_1 => { x_1 with key := RV.tr e y0, val := RV.tr e x }) = ((es.map (trE e)).modify i fun x_1 => { x_1 with val := RV.tr e x }).toArray := by
              apply Array.ext'
              rw [Array.toList_modify]
              apply List.ext_getElem?
              intro j
              rw [List.getElem?_modify, List.getElem?_modify]
              by_cases hij : i = j
              · subst hij
                have h2 : (es.map (trE e))[i]? = some (trE e y) := by rw [List.getElem?_map, hy]; rfl
                simp only [if_true, h2]
                simp [trE, hye]
              · simp [hij]
            rw [hm]
          · intro z hz
            obtain ⟨q, hq1, hq2, hq3⟩ := setNth_mem hz
            refine ⟨by rw [hq2]; exact (hmem q hq1).1, ?_⟩
            rcases hq3 with hq3 | hq3
            · rw [hq3]; exact (hmem q hq1).2
            · rw [hq3]; exact hxl
        · cases hv
      · cases hv
    · cases hv
  · cases hv
theorem findK_run (K : TyOk P Ty) {flat : TypeId → Bool} (hfl : FlatOk P flat) {kt : TypeId} {k : RV} {es : List (RV × RV × Nat)} {z : Option (Nat × RV × RV)} (hz : findK Ty flat kt k es = some z) :
    (Instr.checkKey false 10000 kt (RV.tr e k)).run P w = .ok () w ∧ (Instr.findKey kt (RV.tr e k) (es.map (trE e))).run P w = .ok (z.map fun p => (p.1, RV.tr e p.2.2)) w ∧
    (∀ j y u, z = some (j, y, u) → staysK k y = true → ∃ x, es[j]? = some x ∧ u = x.2.1 ∧ RV.tr e x.1 = RV.tr e k ∧ (Instr.keyThatStays (RV.tr e k) (RV.tr e k)).run P w = .ok (RV.tr e k) w) := by
  unfold findK at hz
  split at hz
  · rename_i ks
    split at hz
    · rename_i hk
      obtain ⟨h1, h2⟩ := keyAg_run (w := w) (e := e) K hfl hk false hz
      refine ⟨h1, h2, fun j y u hj hs => ?_⟩
      obtain ⟨n, x, hi, hx, hy, hu⟩ := (findA_run (w := w) (e := e) K hfl hz).2 j y u hj
      obtain rfl : j = n := by omega
      replace hs : (plainAg (.agg ks) && eqRV y (.agg ks)) = true := hs
      rw [Bool.and_eq_true] at hs
      have hye := eqRV_eq hs.2
      exact ⟨x, hx, hu, by rw [← hy, hye], plainAg_same e hs.1⟩
    · cases hz
  · split at hz
    · rename_i d hd
      split at hz
      · rename_i hk hf
        injection hz with hz; subst hz
        exact ⟨run_checkKey (K.und hd) (keyT_is e hk) false 9999, run_findKey (K.und hd) (findE_now e hk hf).1, fun j y u hj => by cases hj⟩
      · rename_i i v' hk hf
        injection hz with hz; subst hz
        refine ⟨run_checkKey (K.und hd) (keyT_is e hk) false 9999, run_findKey (K.und hd) (findE_now e hk hf).1, fun j y u hj _ => ?_⟩
        injection hj with hj
        injection hj with e1 e2
        injection e2 with e2 e3
        subst e1 e2 e3
        obtain ⟨n, x, hi, hx, hxe, hu⟩ := (findE_now e hk hf).2 _ _ rfl
        obtain rfl : i = n := by omega
        exact ⟨x, hx, hu, hxe, run_keyThatStays (keyT_is e hk)⟩
      · cases hz
    · cases hz
theorem evMe_run (K : TyOk P Ty) {flat : TypeId → Bool} (hfl : FlatOk P flat) (r : RepH B w0 e h w) {t : TypeId} {m k : RV} (hkl : RV.lt h.nx k) (hv : evMe Ty flat h t m k = some (v, h')) :
    ∃ w', (Instr.mapEntry t (RV.tr e m) (RV.tr e k)).run P w = .ok (RV.tr e v) w' ∧ RepH B w0 e h' w' ∧ h'.nx = h.nx ∧ RV.lt h.nx v := by
  unfold evMe at hv
  split at hv
  · rename_i kt el b hu
    split at hv
    · rename_i es c hb
      have hblk : w.heap[e.at_ b]? = some (.map (es.map (trE e)).toArray c) := (r.obj b _ hb).2.2.1
      have hmem := map_lt r hb
      split at hv
      · rename_i hq
        split at hv
        · rename_i z hz
          injection hv with hv
          injection hv with e1 e2; subst e1 e2
          obtain ⟨hck, hfk, _⟩ := findK_run (w := w) (e := e) K hfl hq
          obtain ⟨z1, z2⟩ := zeroV_tr e z
          refine ⟨_, ?_, r.setObj (x := .map ((es ++ [(k, zeroV z, c)]).map (trE e)).toArray (c + 1)) hb rfl ?_, rfl, z2 _, trivial, trivial⟩
          · unfold Instr.mapEntry
            simp only [RV.tr, Sem.run_bind, K.undRun hu, Result.andThen_ok, MapKept.run_getObj_map hblk, hck, hfk, Option.map_none, K.zero hz]
            have hp : ((es.map (trE e)).toArray.push { key := RV.tr e k, val := z, born := c }) = ((es ++ [(k, zeroV z, c)]).map (trE e)).toArray := by
              simp [trE, z1]
            rw [hp, run_setObj_map _ hblk]
            simp [trL, RV.tr, intV, z1, goInt, Result.andThen]
          · intro y hy
            rcases List.mem_append.1 hy with hy | hy
            · exact hmem y hy
            · obtain rfl := List.mem_singleton.1 hy
              exact ⟨hkl, z2 _⟩
        · cases hv
      · rename_i i y0 u hq
        split at hv
        · rename_i x hst hx
          injection hv with hv
          injection hv with e1 e2; subst e1 e2
          obtain ⟨hck, hfk, hs⟩ := findK_run (w := w) (e := e) K hfl hq
          obtain ⟨x', hx', hu', hxe, hks⟩ := hs _ _ _ rfl hst
          rw [hx] at hx'
          injection hx' with hx'; subst hx'
          refine ⟨_, ?_, r.setObj (x := .map (es.map (trE e)).toArray c) hb rfl hmem, rfl, ?_, trivial, trivial⟩
          · unfold Instr.mapEntry
            have hget : (es.map (trE e)).toArray[i]? = some (trE e x) := by rw [List.getElem?_toArray, List.getElem?_map, hx]; rfl
            have hkk : ((((es.map (trE e)).toArray[i]?).map (·.key)).getD (RV.tr e k)) = RV.tr e k := by rw [hget]; exact hxe
            simp only [RV.tr, Sem.run_bind, K.undRun hu, Result.andThen_ok, MapKept.run_getObj_map hblk, hck, hfk, Option.map_some, hkk, hks]
            have hm : ((es.map (trE e)).toArray.modify i fun x_1 => { x_1 with key := RV.tr e k }) = (es.map (trE e)).toArray := by
              apply Array.ext'
              rw [Array.toList_modify]
              apply List.ext_getElem?
              intro j
              rw [List.getElem?_modify]
              by_cases hij : i = j
              · subst hij
                have h2 : (es.map (trE e))[i]? = some (trE e x) := by rw [List.getElem?_map, hx]; rfl
                simp only [if_true, h2]
                simp [trE, hxe]
              · simp [hij]
            rw [hm, run_setObj_map _ hblk]
            simp [trL, RV.tr, intV, goInt, Result.andThen, hx]
            rfl
          · rw [hu']; exact (hmem x (List.mem_of_getElem? hx)).2
        · cases hv
      · cases hv
    · cases hv
  · cases hv
theorem idxB_find (e : Nv) (n : Nat) : ∀ {es : List (RV × RV × Nat)} {i : Nat}, idxB n es = some i → (es.map (trE e)).findIdx? (fun x => (x.born : Int) == (n : Int)) = some i
  | [], i, hv => by cases hv
  | x :: es, i, hv => by
    unfold idxB at hv
    rw [List.map_cons, List.findIdx?_cons]
    split at hv
    · rename_i hx
      injection hv with hv; subst hv
      have hx := Nat.eq_of_beq_eq_true hx
      simp [trE, hx]
    · rename_i hx
      have hne : x.2.2 ≠ n := fun h => by rw [h, Nat.beq_refl] at hx; cases hx
      split at hv
      · rename_i j hj
        injection hv with hv; subst hv
        have ih := idxB_find e n hj
        have hf : (((trE e x).born : Int) == (n : Int)) = false := by
          simp only [trE, beq_eq_false_iff_ne, ne_eq]
          omega
        rw [hf, ih]; rfl
      · cases hv
theorem evEs_run (r : RepH B w0 e h w) {t : TypeId} {m s x : RV} (hxl : RV.lt h.nx x) (hv : evEs h m s x = some h') :
    ∃ w', (Instr.entryStore t (RV.tr e m) (RV.tr e s) (RV.tr e x)).run P w = .ok () w' ∧ RepH B w0 e h' w' ∧ h'.nx = h.nx := by
  unfold evEs at hv
  split at hv
  · rename_i b kd n
    split at hv
    · rename_i es c hb
      split at hv
      · rename_i i hi
        injection hv with hv; subst hv
        have hblk : w.heap[e.at_ b]? = some (.map (es.map (trE e)).toArray c) := (r.obj b _ hb).2.2.1
        have hmem := map_lt r hb
        refine ⟨_, ?_, r.setObj (x := .map ((setNth x es i).map (trE e)).toArray c) hb rfl ?_, rfl⟩
        · unfold Instr.entryStore
          have hfi : (es.map (trE e)).toArray.findIdx? (fun x => (x.born : Int) == (n : Int)) = some i := by
            rw [List.findIdx?_toArray]; exact idxB_find e n hi
          have hai : (asInt (.int kd (.ofNat n))).run P w = .ok (n : Int) w := by simp [asInt, asIntOf]
          simp only [RV.tr, Sem.run_bind, Result.andThen_ok, MapKept.run_getObj_map hblk, hai, hfi]
          have hm : ((es.map (trE e)).toArray.modify i fun x_1 => { x_1 with val := RV.tr e x }) = ((setNth x es i).map (trE e)).toArray := by
            rw [setNth_map]
            apply Array.ext'
            rw [Array.toList_modify]
          rw [hm, run_setObj_map _ hblk]
        · intro z hz
          obtain ⟨q, hq1, hq2, hq3⟩ := setNth_mem hz
          refine ⟨by rw [hq2]; exact (hmem q hq1).1, ?_⟩
          rcases hq3 with hq3 | hq3
          · rw [hq3]; exact (hmem q hq1).2
          · rw [hq3]; exact hxl
      · cases hv
    · cases hv
  · cases hv
theorem opMe_run (K : TyOk P Ty) {flat : TypeId → Bool} (hfl : FlatOk P flat) (r : RepH B w0 e h w) (f : RepF e h.nx F a) {t : TypeId} {m k : Operand} (hv : opMe Ty flat F h t m k = some (v, h')) (ho : o.op = .mapEntry t m k) : OpR P B w0 e h a o w v h' := by
  unfold opMe at hv
  split at hv
  · rename_i p hp
    split at hv
    · rename_i q hq
      obtain ⟨w', hr, r', hn, hl⟩ := evMe_run K hfl r (opd_run f hq).2 hv
      refine ⟨e, w', .inl ?_, Nv.ext.refl _ _, r', Nat.le_of_eq hn.symm, by rw [hn]; exact hl⟩
      unfold execOp; rw [ho]
      simp only [(opd_run f hp).1, (opd_run f hq).1]
      exact run_value hr
    · cases hv
  · cases hv
theorem opEs_run (r : RepH B w0 e h w) (f : RepF e h.nx F a) {t : TypeId} {m s x : Operand} (hv : opEs F h m s x = some (v, h')) (ho : o.op = .entryStore t m s x) : OpR P B w0 e h a o w v h' := by
  unfold opEs at hv
  split at hv
  · rename_i p hp
    split at hv
    · rename_i q hq
      split at hv
      · rename_i u hu
        obtain ⟨h2, rfl⟩ := done_some hv
        obtain ⟨w', hr, r', hn⟩ := evEs_run (P := P) (t := t) r (opd_run f hu).2 h2
        refine ⟨e, w', .inr ⟨?_, rfl⟩, Nv.ext.refl _ _, r', Nat.le_of_eq hn.symm, trivial⟩
        unfold execOp; rw [ho]
        simp only [(opd_run f hp).1, (opd_run f hq).1, (opd_run f hu).1]
        exact run_skip hr
      · cases hv
    · cases hv
  · cases hv
theorem opLook_run (K : TyOk P Ty) {flat : TypeId → Bool} (hfl : FlatOk P flat) (r : RepH B w0 e h w) (f : RepF e h.nx F a) {t : TypeId} {m k : Operand} {ok : Bool} (hv : opLook Ty flat F h t m k ok = some (v, h')) (ho : o.op = .lookup t m k ok) : QR P e h a o w v ∧ h' = h := by
  unfold opLook at hv
  split at hv
  · rename_i p hp
    split at hv
    · rename_i q hq
      split at hv
      · rename_i ks
        obtain ⟨h2, rfl⟩ := with_some hv
        obtain ⟨hr, hl⟩ := evLookA_run K hfl r h2
        refine ⟨⟨?_, hl⟩, rfl⟩
        unfold execOp; rw [ho]
        simp only [(opd_run f hp).1, (opd_run f hq).1]
        exact run_value hr
      · obtain ⟨h2, rfl⟩ := with_some hv
        obtain ⟨hr, hl⟩ := evLookup_run K r h2
        refine ⟨⟨?_, hl⟩, rfl⟩
        unfold execOp; rw [ho]
        simp only [(opd_run f hp).1, (opd_run f hq).1]
        exact run_value hr
    · cases hv
  · cases hv
theorem opTA_run (K : TyOk P Ty) (f : RepF e h.nx F a) {x : Operand} {tx ta : TypeId} {ok : Bool} (hv : opTA Ty F h x ta ok = some (v, h')) (ho : o.op = .typeAssert x tx ta ok) : QR P e h a o w v ∧ h' = h := by
  have hex : ∀ p, opd F x = some p → ∀ u, (Instr.typeAssert (RV.tr e p) tx ta ok).run P w = .ok u w → (execOp a.eval o).run P w = .ok (.value u) w := fun p hp u hu => by
    unfold execOp; rw [ho]
    simp only [(opd_run f hp).1]
    exact run_value hu
  have hund : concE Ty ta = true → ∃ d, P.underlying ta = some d ∧ (∀ ms, d ≠ .interface ms) := fun hc => by
    unfold concE at hc
    split at hc
    · cases hc
    · rename_i d hn hd
      exact ⟨d, K.und hd, fun ms h => hn ms h⟩
    · cases hc
  have hnot : ∀ {p : RV}, opd F x = some p → (Instr.typeAssert (RV.tr e p) tx ta true).run P w = ((zeroValue ta).run P w).andThen (fun z w => .ok (.tuple #[z, .bool false]) w) → taNo Ty h ta ok = some (v, h') → QR P e h a o w v ∧ h' = h := fun {p} hp hr hn => by
    unfold taNo at hn
    split at hn
    · obtain ⟨z, hz, hh⟩ := some_map hn
      injection hh with h1 h2; subst h1 h2
      obtain ⟨z1, z2⟩ := zeroV_tr e z
      refine ⟨⟨hex _ hp _ ?_, z2 _, trivial, trivial⟩, rfl⟩
      rw [hr, K.zero hz w, Result.andThen_ok]
      simp only [RV.tr, okV, trL, z1]
    · cases hn
  unfold opTA at hv
  split at hv
  · rename_i t y hp hc
    obtain ⟨d, hd, hno⟩ := hund hc
    obtain ⟨he, hl⟩ := opd_run f hp
    split at hv
    · rename_i ht
      injection hv with hv
      injection hv with h1 h2; subst h1 h2
      obtain rfl := Nat.eq_of_beq_eq_true ht
      refine ⟨⟨hex _ hp _ ?_, ?_⟩, rfl⟩
      · unfold Instr.typeAssert
        simp only [Sem.run_bind, run_underlying hd, Result.andThen_ok, RV.tr]
        cases d <;> first | exact absurd rfl (hno _) | (cases ok <;> simp [okV, RV.tr, trL])
      · cases ok
        · exact hl
        · exact ⟨hl, trivial, trivial⟩
    · rename_i ht
      have hne : ¬ t = ta := fun h => by subst h; rw [Nat.beq_refl] at ht; cases ht
      refine hnot hp ?_ hv
      unfold Instr.typeAssert
      simp only [Sem.run_bind, run_underlying hd, Result.andThen_ok, RV.tr]
      cases d <;> first | exact absurd rfl (hno _) | simp [hne]
  · rename_i hp hc
    obtain ⟨d, hd, hno⟩ := hund hc
    refine hnot hp ?_ hv
    unfold Instr.typeAssert
    simp only [Sem.run_bind, run_underlying hd, Result.andThen_ok, RV.tr]
    cases d <;> first | exact absurd rfl (hno _) | simp
  · cases hv
theorem opUpd_run (K : TyOk P Ty) {flat : TypeId → Bool} (hfl : FlatOk P flat) (r : RepH B w0 e h w) (f : RepF e h.nx F a) {t : TypeId} {m k x : Operand} (hv : opUpd Ty flat F h t m k x = some (v, h')) (ho : o.op = .mapUpdate t m k x ∨ o.op = .insert t m k x) : OpR P B w0 e h a o w v h' := by
  unfold opUpd at hv
  split at hv
  · rename_i p hp
    split at hv
    · rename_i q hq
      split at hv
      · rename_i s hs
        have key : ∀ {h2 : Hp}, (∃ w', (Instr.mapUpdate t (RV.tr e p) (RV.tr e q) (RV.tr e s)).run P w = .ok () w' ∧ RepH B w0 e h2 w' ∧ h2.nx = h.nx) → OpR P B w0 e h a o w (.lit undef) h2 := by
          rintro h2 ⟨w', hr, r', hn⟩
          refine ⟨e, w', .inr ⟨?_, rfl⟩, Nv.ext.refl _ _, r', Nat.le_of_eq hn.symm, trivial⟩
          rcases ho with ho | ho <;>
            (unfold execOp; rw [ho]
             simp only [(opd_run f hp).1, (opd_run f hq).1, (opd_run f hs).1]
             exact run_skip hr)
        split at hv
        · obtain ⟨h2, rfl⟩ := done_some hv
          exact key (evUpdA_run K hfl r (opd_run f hq).2 (opd_run f hs).2 h2)
        · obtain ⟨h2, rfl⟩ := done_some hv
          exact key (evMapUpd_run K r (opd_run f hq).2 (opd_run f hs).2 h2)
      · cases hv
    · cases hv
  · cases hv
end
end Go.Proofs.YtlfljoeafpimpaaGreatDoor
namespace Go.Proofs.YtlfljoeafpimpaaGreatDoor
open Go.RowKit

section
variable {P : Program} {Ty : Tr TypeInfo} {B : Nat → Prop} {w0 w : World} {e : Nv} {h h' : Hp} {F : Fr} {a : Act} {o : Oper} {v : RV}
theorem bytL_tr (n k : Nat) : bytV n k = (bytL n k).map fun b => .int .u8 (b.toNat : Int) := by
  unfold bytV bytL
  rw [List.map_map]
  refine List.map_congr_left fun i _ => ?_
  simp only [byV, Function.comp, UInt8.toNat_ofNat']
theorem bytesOf_tr (e : Nv) : ∀ {cs : List Seg} {l : List UInt8}, bytesOf cs = some l → trS e cs = l.map fun b => .int .u8 (b.toNat : Int)
  | [], l, hv => by
    injection hv with hv; subst hv
    rfl
  | s :: r, l, hv => by
    unfold bytesOf at hv
    split at hv
    · rename_i h; cases h
    · rename_i n k r' h
      injection h with h1 h2; subst h1 h2
      obtain ⟨q, hq, rfl⟩ := some_map hv
      rw [trS, bytesOf_tr e hq, List.map_append]
      simp only [Seg.tr, bytL_tr]
    · rename_i m r' h
      injection h with h1 h2; subst h1 h2
      split at hv
      · rename_i hm
        have hm := not_ble hm
        obtain ⟨q, hq, rfl⟩ := some_map hv
        rw [trS, bytesOf_tr e hq, List.map_cons]
        simp only [Seg.tr, RV.tr, List.singleton_append]
        rw [UInt8.toNat_ofNat', Nat.mod_eq_of_lt (by simpa using hm)]
        rfl
      · cases hv
    · rename_i m k r' h
      injection h with h1 h2; subst h1 h2
      split at hv
      · rename_i hm
        have hm := not_ble hm
        obtain ⟨q, hq, rfl⟩ := some_map hv
        rw [trS, bytesOf_tr e hq, List.map_append, List.map_replicate]
        simp only [Seg.tr, RV.tr]
        rw [UInt8.toNat_ofNat', Nat.mod_eq_of_lt (by simpa using hm)]
        rfl
      · cases hv
    · cases hv
theorem longV_tr (e : Nv) {vs : List Seg} {l : List UInt8} (hb : bytesOf vs = some l) : RV.tr e (longV vs (.lit (.string ⟨⟨l⟩⟩))) = .string ⟨⟨l⟩⟩ := by
  unfold longV
  split
  · rename_i c k
    split
    · unfold bytesOf at hb
      split at hb
      · obtain ⟨q, hq, rfl⟩ := some_map hb
        injection hq with hq; subst hq
        simp [RV.tr]
      · cases hb
    · rfl
  · rfl
theorem longV_lt (n : Nat) (vs : List Seg) (s : Value) : RV.lt n (longV vs (.lit s)) := by
  unfold longV
  split
  · split <;> trivial
  · trivial
theorem conv_tobytes (K : TyOk P Ty) (r : RepH B w0 e h w) {s d el : TypeId} {t : ByteArray} (hs : undE Ty s = some .string) (hd : undE Ty d = some (.slice el)) (he : undE Ty el = some (.int .u8)) (hroom : h.room = true) :
    ∃ e' w', (convert s d (.string t)).run P w = .ok (RV.tr e' (.slu h.nx 0 t.size 0)) w' ∧ Nv.ext h.nx e e' ∧ RepH B w0 e' (h.add (.row (pack (t.data.toList.map fun b => .int .u8 b.toNat)) el 1)) w' := by
  have hrun := run_bytes_of_string (P := P) w s d el t (K.und hs) (K.und hd) (K.und he)
  have hcap := grownCap_ge w t.size 0 el
  have hts : t.data.toList.length = t.size := by rw [Array.length_toList]; rfl
  have hl : lenS (pack (t.data.toList.map fun b => Value.int .u8 (b.toNat : Int))) = t.size := by
    rw [← trS_len e, pack_tr, List.length_map, hts]
  have hR := r.drew.make (o := .row (pack (t.data.toList.map fun b => .int .u8 b.toNat)) el 1)
    (x := .cells (bytesRow t (grownCap w t.size 0 el)) el ((bytesRow t (grownCap w t.size 0 el)).size, (bytesRow t (grownCap w t.size 0 el)).size + 1)) (grownCap w t.size 0 el) (Hp.room_lt hroom) ?_ (pack_lt _)
  · refine ⟨_, _, hrun.trans ?_, Nv.put_ext e h.nx w.heap.size (grownCap w t.size 0 el), hR⟩
    simp only [RV.tr, Nv.put, if_true, Nat.sub_zero]
  · refine ⟨List.replicate (grownCap w t.size 0 el - t.size) (.int .u8 0), ((bytesRow t (grownCap w t.size 0 el)).size, (bytesRow t (grownCap w t.size 0 el)).size + 1), ?_, ?_, .inr ?_⟩
    · rw [pack_tr]
      congr 2
      apply Array.ext'
      simp [bytesRow]
    · rw [hl, List.length_replicate]
      have hce : ∀ q, (e.put h.nx q (grownCap w t.size 0 el)).cap h.nx = grownCap w t.size 0 el := fun q => by simp [Nv.put]
      rw [hce]; omega
    · rw [hl, List.length_replicate]
      have : (bytesRow t (grownCap w t.size 0 el)).size = t.size + (grownCap w t.size 0 el - t.size) := by
        unfold bytesRow
        rw [Array.size_append, Array.size_map, Array.size_replicate]
        rfl
      rw [this]
      exact Nat.le_refl _
theorem conv_text_bytes (K : TyOk P Ty) (r : RepH B w0 e h w) {s d el : TypeId} {x : RV} {n : Nat} {vs : List Seg} {l : List UInt8} (hs : undE Ty s = some (.slice el)) (hd : undE Ty d = some .string) (he : undE Ty el = some (.int .u8))
    (hn : lenS' x = some n) (hf : firstS h 1 n x = some vs) (hvn : lenS vs = n) (hb : bytesOf vs = some l) : (convert s d (RV.tr e x)).run P w = .ok (.string ⟨⟨l⟩⟩) w := by
  have hbt := bytesOf_tr e hb
  have hll : l.length = n := by
    have := trS_len e vs
    rw [hbt, List.length_map] at this
    omega
  have key : ∀ (q o' : Nat) (c : Nat) (y : RO), RV.tr e x = .slice (some ⟨e.at_ q, o', none⟩) n c → rowOf x = some (q, o', n) → (convert s d (RV.tr e x)).run P w = .ok (.string ⟨⟨l⟩⟩) w := by
    intro q o' c _ hx hro
    have hf' : ∃ y cs t, h.at? q = some y ∧ y.segs = some (cs, t) ∧ takeS (dropS cs o') (n * 1) = vs := by
      unfold firstS at hf
      split at hf
      · cases hro
      · cases hro
      · cases hro
      · rw [hro] at hf
        simp only at hf
        split at hf
        · rename_i y hy
          split at hf
          · rename_i cs t hcs
            split at hf
            · injection hf with hf
              exact ⟨y, cs, t, hy, hcs, hf⟩
            · cases hf
          · cases hf
        · cases hf
    obtain ⟨y, cs, t, hy, hcs, hvs⟩ := hf'
    have hrd := r.read hy hcs o' (n * 1)
    rw [hvs, hbt] at hrd
    rw [hx]
    have := run_convert_bytes_back (P := P) w s d el ⟨e.at_ q, o', none⟩ c l (K.und hs) (K.und he) (K.und hd) (fun j hj => by
      rw [Addr.add_mid]
      exact hrd j _ (by rw [List.getElem?_map, List.getElem?_eq_getElem hj]; rfl))
    rw [hll] at this
    exact this
  unfold lenS' at hn
  split at hn
  · injection hn with hn; subst hn
    exact key _ _ _ (.map [] 0) rfl rfl
  · injection hn with hn; subst hn
    exact key _ _ _ (.map [] 0) rfl rfl
  · injection hn with hn; subst hn
    obtain rfl : l = [] := List.length_eq_zero_iff.1 hll
    exact run_convert_bytes_back (P := P) w s d el ⟨_, _, none⟩ _ [] (K.und hs) (K.und he) (K.und hd) (fun j hj => by cases hj)
  · injection hn with hn; subst hn
    have hf : some [] = some vs := hf
    injection hf with hf; subst hf
    have hb : some [] = some l := hb
    injection hb with hb; subst hb
    show (convert s d (.slice none _ _)).run P w = _
    rw [run_convert_bytes_string w s d el none _ _ (K.und hs) (K.und he) (K.und hd)]
    rfl
  · cases hn
theorem conv_same (K : TyOk P Ty) (r : RepH B w0 e h w) {s d el : TypeId} {x : RV} {b o' n : Nat} {y : RO} {cs : List Seg} {t : TypeId} (hd : undE Ty d = some (.slice el)) (he : undE Ty el = some (.int .u8))
    (hsd : s = d) (hro : rowOf x = some (b, o', n)) (hb : h.at? b = some y) (hcs : y.segs = some (cs, t)) :
    ∃ w', (convert s d (RV.tr e x)).run P w = .ok (RV.tr e x) w' ∧ RepH B w0 e (h.put b y) w' := by
  obtain ⟨sp, fr, hblk, hfz⟩ := r.blk hb hcs
  obtain ⟨c, hx⟩ := rowOf_tr e hro
  have hlt : e.at_ b < w.heap.size := r.live hb
  have hsize : (trS e cs ++ sp).toArray.size = lenS cs + sp.length := by simp [trS_len]
  generalize hA : (trS e cs ++ sp).toArray = A at hblk hsize
  generalize hn : lenS cs + sp.length = m at hfz hsize
  obtain ⟨lo, hi⟩ := fr
  have hfz' : ∀ fr' : Nat × Nat, fr' = (if lo == hi then (m, m + 1) else (min lo m, max hi (m + 1))) → frz fr' m := by
    intro fr' hfr
    subst hfr
    right
    split
    · exact Nat.le_refl _
    · rename_i hne
      rcases hfz with h0 | h0
      · injection h0 with h1 h2; subst h1 h2; exact (hne rfl).elim
      · simp only at h0 ⊢; omega
  have hz := hfz' _ rfl
  generalize hfr : (if lo == hi then (m, m + 1) else (min lo m, max hi (m + 1))) = fr' at hz
  refine ⟨_, ?_, r.setObj (x := .cells A t fr') hb ?_ ?_⟩
  · rw [hx]
    have hsh : w.shape? (e.at_ b) = some (t, m) := by simp [World.shape?, hblk, hsize]
    have hfre : w.freeze ⟨e.at_ b, m, none⟩ 1 = { w with heap := w.heap.setIfInBounds (e.at_ b) (.cells A t fr') } := by
      unfold World.freeze
      rw [if_neg (by decide)]
      congr 1
      apply Array.ext_getElem?
      intro j
      rw [Array.getElem?_modify, Array.getElem?_setIfInBounds]
      by_cases hj : e.at_ b = j
      · subst hj
        simp only [if_true, hblk, Option.map_some, hlt, hfr]
      · simp [hj]
    unfold convert
    simp only [Sem.run_bind, K.undRun hd, Result.andThen_ok, K.undRun he, hsd, beq_self_eq_true]
    simp [markStringish, hsh, hfre]
  · obtain ⟨_, _, hok, _⟩ := r.obj b y hb
    cases y with
    | cells c u =>
      simp only [RO.segs, Option.some.injEq, Prod.mk.injEq] at hcs
      obtain ⟨rfl, rfl⟩ := hcs
      obtain ⟨fr2, h1, h2⟩ := hok
      rw [h1] at hblk
      injection hblk with hblk
      injection hblk with g1 g2 g3
      have hm : m = lenS c := by rw [← hsize, ← g1]; simp [trS_len]
      exact ⟨fr', by rw [g1], by rw [← hm]; exact hz⟩
    | row c u sz =>
      simp only [RO.segs, Option.some.injEq, Prod.mk.injEq] at hcs
      obtain ⟨rfl, rfl⟩ := hcs
      obtain ⟨sp2, fr2, h1, h2, h3⟩ := hok
      rw [h1] at hblk
      injection hblk with hblk
      injection hblk with g1 g2 g3
      have hm : m = lenS c + sp2.length := by rw [← hsize, ← g1]; simp [trS_len]
      exact ⟨sp2, fr', by rw [g1], h2, by rw [← hm]; exact hz⟩
    | map es c => cases hcs
    | lop L => cases hcs
    | dfr => cases hcs
    | itr m s q l => cases hcs
  · exact (r.obj b y hb).2.2.2
theorem opConv_run (K : TyOk P Ty) (r : RepH B w0 e h w) (f : RepF e h.nx F a) {s d : TypeId} {x : Operand} (hv : opConv Ty F h s d x = some (v, h')) (ho : o.op = .convert s d x) : OpR P B w0 e h a o w v h' := by
  unfold opConv at hv
  split at hv
  · rename_i p hp
    obtain ⟨he, hl⟩ := opd_run f hp
    have hex : (execOp a.eval o) = (do pure (Next.value (← convert s d (RV.tr e p))) : Sem Next) := by
      unfold execOp; rw [ho]
      simp only [he]
    unfold evConv at hv
    split at hv
    · rename_i ds k j n hs hd
      injection hv with hv
      injection hv with e1 e2; subst e1 e2
      refine .same r ?_ trivial
      rw [hex]
      exact run_value (conv_int K hs hd)
    · rename_i ds t hs hd
      injection hv with hv
      injection hv with e1 e2; subst e1 e2
      refine .same r ?_ trivial
      rw [hex]
      exact run_value (conv_text K hs hd)
    · rename_i el t hs hd
      split at hv
      · rename_i hel hroom
        injection hv with hv
        injection hv with e1 e2; subst e1 e2
        obtain ⟨e', w', hr, hx, r'⟩ := conv_tobytes K r hs hd hel hroom (t := t)
        refine ⟨e', w', .inl ?_, hx, r', Nat.le_succ _, Nat.lt_succ_self _⟩
        rw [hex]
        exact run_value hr
      · cases hv
    · rename_i el hs hd _
      split at hv
      · rename_i n hel hn
        split at hv
        · rename_i vs hf
          split at hv
          · rename_i l b1 hb
            injection hv with hv
            injection hv with e1 e2; subst e1 e2
            refine .same r ?_ (longV_lt _ _ _)
            rw [hex, longV_tr e hb]
            exact run_value (conv_text_bytes K r hs hd hel hn hf (Nat.eq_of_beq_eq_true b1) hb)
          · cases hv
        · cases hv
      · cases hv
    · rename_i _ el _ hd
      split at hv
      · rename_i b o' n hel b1 hro
        split at hv
        · rename_i y hy
          split at hv
          · rename_i q hq
            obtain ⟨cs, t⟩ := q
            injection hv with hv
            injection hv with e1 e2; subst e1 e2
            obtain ⟨w', hr, r'⟩ := conv_same K r hd hel (Nat.eq_of_beq_eq_true b1) hro hy hq
            refine ⟨e, w', .inl ?_, Nv.ext.refl _ _, r', Nat.le_refl _, hl⟩
            rw [hex]
            exact run_value hr
          · cases hv
        · cases hv
      · cases hv
    · cases hv
  · cases hv
end
end Go.Proofs.YtlfljoeafpimpaaGreatDoor
namespace Go.Proofs.YtlfljoeafpimpaaGreatDoor
open Go.RowKit
open Go.MapKept (IsKey run_checkKey run_findKey run_setObj_map)
open Go.ChangeMaps (setBlock)

section
variable {P : Program} {Ty : Tr TypeInfo} {B : Nat → Prop} {w0 w : World} {e : Nv} {h h' : Hp} {F : Fr} {a : Act} {o : Oper} {v : RV}
theorem eraseIdx_map' {α β : Type} (f : α → β) : ∀ (l : List α) (i : Nat), (l.eraseIdx i).map f = (l.map f).eraseIdx i
  | [], i => by simp
  | x :: l, 0 => by simp
  | x :: l, i + 1 => by simp [eraseIdx_map' f l i]
theorem evDel_run (K : TyOk P Ty) (r : RepH B w0 e h w) {t : TypeId} {ts : List TypeId} {ty : TypeId} {m k : RV} (hv : evDel Ty h t m k = some h') :
    ∃ w', (Builtin.delete_ (t :: ts).toArray ty (trL e [m, k]).toArray).run P w = .ok (.tuple #[]) w' ∧ RepH B w0 e h' w' ∧ h'.nx = h.nx := by
  unfold evDel at hv
  split at hv
  · rename_i kt el hu
    split at hv
    · rename_i d hd
      split at hv
      · rename_i hk
        split at hv
        · injection hv with hv; subst hv
          refine ⟨w, ?_, r, rfl⟩
          have hck := run_checkKey (P := P) (w := w) (K.und hd) (keyT_is e hk) true 9999
          simp [Builtin.delete_, K.undRun hu, trL, RV.tr, hck]
        · rename_i b
          split at hv
          · rename_i es c hb
            have hblk : w.heap[e.at_ b]? = some (.map (es.map (trE e)).toArray c) := (r.obj b _ hb).2.2.1
            have hck := run_checkKey (P := P) (w := w) (K.und hd) (keyT_is e hk) ((es.map (trE e)).toArray.isEmpty) 9999
            have hmem := map_lt r hb
            split at hv
            · rename_i hq
              injection hv with hv; subst hv
              have hfk := run_findKey (P := P) (w := w) (kt := kt) (K.und hd) (findE_now e hk hq).1
              refine ⟨_, ?_, r.setObj (x := .map (es.map (trE e)).toArray c) hb rfl hmem, rfl⟩
              unfold Builtin.delete_
              simp only [trL, RV.tr, List.getElem?_toArray, List.getElem?_cons_zero, List.getElem?_cons_succ, Sem.run_bind, K.undRun hu, Result.andThen_ok, MapKept.run_getObj_map hblk, hck, hfk, Option.map_none]
              rw [run_setObj_map _ hblk]
              rfl
            · rename_i i u hq
              injection hv with hv; subst hv
              have hfk := run_findKey (P := P) (w := w) (kt := kt) (K.und hd) (findE_now e hk hq).1
              refine ⟨_, ?_, r.setObj (x := .map ((es.eraseIdx i).map (trE e)).toArray c) hb rfl (fun x hx => hmem x (List.mem_of_mem_eraseIdx hx)), rfl⟩
              unfold Builtin.delete_
              simp only [trL, RV.tr, List.getElem?_toArray, List.getElem?_cons_zero, List.getElem?_cons_succ, Sem.run_bind, K.undRun hu, Result.andThen_ok, MapKept.run_getObj_map hblk, hck, hfk, Option.map_some]
              rw [run_setObj_map _ hblk]
              have : (es.map (trE e)).toArray.eraseIdxIfInBounds i = ((es.eraseIdx i).map (trE e)).toArray := by
                rw [eraseIdx_map']
                simp
              rw [this]
              rfl
            · cases hv
          · cases hv
        · cases hv
      · cases hv
    · cases hv
  · cases hv
theorem evDelA_run (K : TyOk P Ty) {flat : TypeId → Bool} (hfl : FlatOk P flat) (r : RepH B w0 e h w) {t : TypeId} {ts : List TypeId} {ty : TypeId} {m k : RV} (hv : evDelA Ty flat h t m k = some h') :
    ∃ w', (Builtin.delete_ (t :: ts).toArray ty (trL e [m, k]).toArray).run P w = .ok (.tuple #[]) w' ∧ RepH B w0 e h' w' ∧ h'.nx = h.nx := by
  unfold evDelA at hv
  split at hv
  · rename_i kt el b hu
    split at hv
    · rename_i es c hb hk
      have hblk : w.heap[e.at_ b]? = some (.map (es.map (trE e)).toArray c) := (r.obj b _ hb).2.2.1
      have hmem := map_lt r hb
      split at hv
      · rename_i hq
        injection hv with hv; subst hv
        obtain ⟨hck, hfk⟩ := keyAg_run (w := w) (e := e) K hfl hk ((es.map (trE e)).toArray.isEmpty) hq
        refine ⟨_, ?_, r.setObj (x := .map (es.map (trE e)).toArray c) hb rfl hmem, rfl⟩
        unfold Builtin.delete_
        simp only [trL, RV.tr, List.getElem?_toArray, List.getElem?_cons_zero, List.getElem?_cons_succ, Sem.run_bind, K.undRun hu, Result.andThen_ok, MapKept.run_getObj_map hblk, hck, hfk, Option.map_none]
        rw [run_setObj_map _ hblk]
        rfl
      · rename_i i y0 u hq
        injection hv with hv; subst hv
        obtain ⟨hck, hfk⟩ := keyAg_run (w := w) (e := e) K hfl hk ((es.map (trE e)).toArray.isEmpty) hq
        refine ⟨_, ?_, r.setObj (x := .map ((es.eraseIdx i).map (trE e)).toArray c) hb rfl (fun x hx => hmem x (List.mem_of_mem_eraseIdx hx)), rfl⟩
        unfold Builtin.delete_
        simp only [trL, RV.tr, List.getElem?_toArray, List.getElem?_cons_zero, List.getElem?_cons_succ, Sem.run_bind, K.undRun hu, Result.andThen_ok, MapKept.run_getObj_map hblk, hck, hfk, Option.map_some]
        rw [run_setObj_map _ hblk]
        have : (es.map (trE e)).toArray.eraseIdxIfInBounds i = ((es.eraseIdx i).map (trE e)).toArray := by
          rw [eraseIdx_map']
          simp
        rw [this]
        rfl
      · cases hv
    · cases hv
  · cases hv
theorem opRng_run (K : TyOk P Ty) (r : RepH B w0 e h w) (f : RepF e h.nx F a) {t : TypeId} {x : Operand} (hv : opRng Ty F h t x = some (v, h')) (ho : o.op = .range t x) : OpR P B w0 e h a o w v h' := by
  unfold opRng at hv
  split at hv
  · rename_i y hy
    obtain ⟨he, hl⟩ := opd_run f hy
    unfold evRng at hv
    split at hv
    · rename_i kt el hu hroom
      split at hv
      · injection hv with hv
        injection hv with h1 h2; subst h1 h2
        refine ⟨e.put h.nx w.heap.size 0, w.alloc (.mapIter none 0 #[] 0), .inl ?_, Nv.put_ext _ _ _ _, r.make 0 (Hp.room_lt hroom) (by simp [RO.ok]) (fun b hb => by cases hb), Nat.le_succ _, Nat.lt_succ_self _⟩
        unfold execOp; rw [ho]
        refine run_value ?_
        simp [Instr.range, he, K.undRun hu, RV.tr, Nv.put]
      · rename_i b
        split at hv
        · rename_i es c hb
          injection hv with hv
          injection hv with h1 h2; subst h1 h2
          obtain ⟨hbn, _, hblk, _⟩ := r.obj b _ hb
          have hblk : w.heap[e.at_ b]? = some (.map (es.map (trE e)).toArray c) := hblk
          refine ⟨e.put h.nx w.heap.size 0, w.alloc (.mapIter (some (e.at_ b)) c #[] c), .inl ?_, Nv.put_ext _ _ _ _, r.make 0 (Hp.room_lt hroom) ?_ (fun b' hb' => by injection hb' with hb'; subst hb'; omega), Nat.le_succ _, Nat.lt_succ_self _⟩
          · unfold execOp; rw [ho]
            refine run_value ?_
            simp [Instr.range, he, K.undRun hu, RV.tr, Nv.put, MapKept.run_getObj_map hblk]
          · have : b ≠ h.nx := by omega
            simp [RO.ok, Nv.put, this]
        · cases hv
      · cases hv
    · cases hv
  · cases hv
theorem bornLt_mem {n : Nat} : ∀ {es : List (RV × RV × Nat)}, bornLt n es = true → ∀ x ∈ es, x.2.2 < n
  | [], _, x, hx => by cases hx
  | y :: es, hb, x, hx => by
    unfold bornLt at hb
    split at hb
    · rename_i h1
      rcases List.mem_cons.1 hx with rfl | hx
      · exact Nat.le_of_ble_eq_true h1
      · exact bornLt_mem hb x hx
    · cases hb
theorem hasN_eq (b : Nat) : ∀ l : List Nat, hasN b l = l.contains b
  | [] => rfl
  | x :: r => by
    unfold hasN
    split
    · rename_i h1
      have := Nat.eq_of_beq_eq_true h1
      simp [this]
    · rename_i h1
      rw [hasN_eq b r]
      have : ¬ x = b := fun hh => by subst hh; rw [show Nat.beq x x = true from Nat.beq_refl x] at h1; cases h1
      have h2 : ¬ b = x := fun hh => this hh.symm
      simp [h2]
theorem leftE_eq (seen : List Nat) : ∀ es : List (RV × RV × Nat), leftE seen es = es.filter fun x => !seen.contains x.2.2
  | [] => rfl
  | x :: r => by
    unfold leftE
    rw [List.filter_cons, leftE_eq seen r, hasN_eq]
    cases seen.contains x.2.2 <;> rfl
theorem left_of (e : Nv) (seen : List Nat) (es : List (RV × RV × Nat)) : leftOf (es.map (trE e)).toArray seen.toArray = ((leftE seen es).map (trE e)).toArray := by
  unfold leftOf
  rw [leftE_eq]
  simp only [List.filter_toArray, List.filter_map]
  congr 1
  refine congrArg _ (List.filter_congr fun x _ => ?_)
  rw [Bool.eq_iff_iff]
  simp [trE]
  exact decide_eq_false_iff_not
theorem opNxt_run (r : RepH B w0 e h w) (f : RepF e h.nx F a) {x : Operand} {s : Bool} (hv : opNxt F h x s = some (v, h')) (ho : o.op = .next x s) : OpR P B w0 e h a o w v h' := by
  unfold opNxt at hv
  split at hv
  · rename_i y hy
    obtain ⟨he, hl⟩ := opd_run f hy
    unfold evNxt at hv
    split at hv
    · rename_i i
      split at hv
      · rename_i s1 s2 s3 hi
        injection hv with hv
        injection hv with h1 h2; subst h1 h2
        have hit : w.heap[e.at_ i]? = some (.mapIter none s1 s2.toArray s3) := (r.obj i _ hi).2.2.1
        refine ⟨e, w, .inl ?_, Nv.ext.refl _ _, r, Nat.le_refl _, ⟨trivial, trivial⟩⟩
        unfold execOp; rw [ho]
        refine run_value ?_
        simp only [he, RV.tr]
        simp [Instr.next, getObj, Sem.run, hit, Result.andThen, trL, RV.tr]
      · rename_i m since seen c0 hi
        have hit : w.heap[e.at_ i]? = some (.mapIter (some (e.at_ m)) since seen.toArray c0) := (r.obj i _ hi).2.2.1
        split at hv
        · rename_i es c hm
          have hblk : w.heap[e.at_ m]? = some (.map (es.map (trE e)).toArray c) := (r.obj m _ hm).2.2.1
          split at hv
          · rename_i hb1 hb2
            have hold : ∀ z ∈ ((es.map (trE e)).toArray).toList, z.born < since := fun z hz => by
              simp only at hz
              obtain ⟨u, hu, rfl⟩ := List.mem_map.1 hz
              exact bornLt_mem hb1 u hu
            have hrun := fun ty => run_next_at (P := P) w ty (e.at_ i) (e.at_ m) since c0 seen.toArray _ c hit hblk hold (Nat.le_of_ble_eq_true hb2)
            split at hv
            · rename_i hleft
              injection hv with hv
              injection hv with h1 h2; subst h1 h2
              refine ⟨e, w, .inl ?_, Nv.ext.refl _ _, r, Nat.le_refl _, ⟨trivial, trivial⟩⟩
              unfold execOp; rw [ho]
              refine run_value ?_
              rcases hrun o.type with ⟨_, hr⟩ | ⟨z, hz, _⟩
              · simp only [he, RV.tr, trL]; exact hr
              · rw [left_of, hleft] at hz
                simp at hz
            · rename_i z hleft
              injection hv with hv
              injection hv with h1 h2; subst h1 h2
              have hzm : z ∈ es := by
                have : z ∈ leftE seen es := by rw [hleft]; exact List.mem_singleton_self _
                rw [leftE_eq] at this
                exact (List.mem_filter.1 this).1
              have hzl := map_lt r hm z hzm
              rcases hrun o.type with ⟨hc, _⟩ | ⟨z', hz, w1, hw1, hr⟩
              · rw [left_of, hleft] at hc
                simp at hc
              · rw [left_of, hleft] at hz
                simp at hz
                subst hz
                have r1 : RepH B w0 e h w1 := by
                  rcases hw1 with rfl | rfl
                  · exact r
                  · exact r.drew
                refine ⟨e, _, .inl ?_, Nv.ext.refl _ _, r1.setObj (x := .mapIter (some (e.at_ m)) since (seen ++ [z.2.2]).toArray c) (o' := .itr (some m) since (seen ++ [z.2.2]) c) hi (by simp [RO.ok]) (r.obj i _ hi).2.2.2, Nat.le_refl _, ⟨trivial, hzl.1, hzl.2, trivial⟩⟩
                unfold execOp; rw [ho]
                refine run_value ?_
                simp only [he, RV.tr, trL]
                refine hr.trans ?_
                simp [trE, setBlock]
            · cases hv
          · cases hv
        · cases hv
      · cases hv
    · cases hv
  · cases hv
theorem lastN_eq : ∀ l : List Nat, lastN l = l.getLast?
  | [] => rfl
  | [_] => rfl
  | _ :: y :: r => by
    unfold lastN
    rw [lastN_eq (y :: r), List.getLast?_cons_cons]
theorem bornE_eq (e : Nv) (b : Nat) : ∀ es : List (RV × RV × Nat), (es.map (trE e)).find? (fun x => x.born == b) = (bornE b es).map (trE e)
  | [] => rfl
  | x :: r => by
    unfold bornE
    rw [List.map_cons, List.find?_cons]
    have : ((trE e x).born == b) = Nat.beq x.2.2 b := by
      rw [Bool.eq_iff_iff]
      simp [trE, Nat.beq_eq]
    rw [this]
    cases Nat.beq x.2.2 b
    · exact bornE_eq e b r
    · rfl
theorem bornE_mem {b : Nat} : ∀ {es : List (RV × RV × Nat)} {y}, bornE b es = some y → y ∈ es
  | [], y, hy => by cases hy
  | x :: r, y, hy => by
    unfold bornE at hy
    split at hy
    · injection hy with hy; subst hy
      exact List.mem_cons_self ..
    · exact List.mem_cons_of_mem _ (bornE_mem hy)
theorem opEnt_run (r : RepH B w0 e h w) (f : RepF e h.nx F a) {x : Operand} (hv : opEnt F h x = some (v, h')) (ho : o.op = .entry x) : OpR P B w0 e h a o w v h' := by
  unfold opEnt at hv
  split at hv
  · rename_i y hy
    obtain ⟨he, hl⟩ := opd_run f hy
    unfold evEnt at hv
    split at hv
    · rename_i i
      split at hv
      · rename_i m since seen c0 hi
        have hit : w.heap[e.at_ i]? = some (.mapIter (some (e.at_ m)) since seen.toArray c0) := (r.obj i _ hi).2.2.1
        split at hv
        · rename_i b es c hb hm
          have hblk : w.heap[e.at_ m]? = some (.map (es.map (trE e)).toArray c) := (r.obj m _ hm).2.2.1
          split at hv
          · rename_i z hc hz
            injection hv with hv
            injection hv with h1 h2; subst h1 h2
            obtain rfl := Nat.eq_of_beq_eq_true hc
            have hzl := map_lt r hm z (bornE_mem hz)
            refine ⟨e, w, .inl ?_, Nv.ext.refl _ _, r, Nat.le_refl _, ⟨hzl.1, hzl.2, trivial⟩⟩
            unfold execOp; rw [ho]
            refine run_value ?_
            have hf : (es.map (trE e)).toArray.find? (fun x => x.born == b) = some (trE e z) := by
              rw [List.find?_toArray, bornE_eq, hz]; rfl
            have hbk : seen.toArray.back? = some b := by
              rw [lastN_eq] at hb
              simp [hb]
            simp only [he, RV.tr, trL]
            simp only [Instr.entry, getObj, Sem.run_bind, Sem.run, hit, hblk, Result.andThen, hbk, bne_self_eq_false, Bool.false_eq_true, if_false, hf]
            rfl
          · cases hv
        · cases hv
      · cases hv
    · cases hv
  · cases hv
end
end Go.Proofs.YtlfljoeafpimpaaGreatDoor
