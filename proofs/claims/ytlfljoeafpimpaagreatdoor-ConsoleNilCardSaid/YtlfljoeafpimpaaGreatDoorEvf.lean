/- The evaluator: store, alloc, box. The evaluator: addresses of fields and elements, elements of values, parts of tuples, checks. The evaluator: numbers, Booleans, texts; is it nil. -/
import Derived.Test.YtlfljoeafpimpaaGreatDoorEvc
import Derived.Laws.Strings
namespace Go.Proofs.YtlfljoeafpimpaaGreatDoor
open Go.RowKit

/-! ### bytes that meet -/
theorem byV_lo (a b ka i : Nat) (h : i < ka) : byV (a % 2 ^ (8 * ka) + b <<< (8 * ka)) i = byV a i := by
  rw [← byV_mod a ka i h]
  unfold byV
  have hM : 2 ^ (8 * ka) = 2 ^ (8 * i) * (256 * 2 ^ (8 * (ka - i - 1))) := by
    rw [show (256 : Nat) = 2 ^ 8 from rfl, ← Nat.pow_add, ← Nat.pow_add]
    congr 1; omega
  have : (a % 2 ^ (8 * ka) + b <<< (8 * ka)) >>> (8 * i) % 256 = (a % 2 ^ (8 * ka)) >>> (8 * i) % 256 := by
    rw [Nat.shiftLeft_eq, Nat.shiftRight_eq_div_pow, Nat.shiftRight_eq_div_pow]
    generalize a % 2 ^ (8 * ka) = x
    rw [hM, show b * (2 ^ (8 * i) * (256 * 2 ^ (8 * (ka - i - 1)))) = (b * (256 * 2 ^ (8 * (ka - i - 1)))) * 2 ^ (8 * i) by rw [Nat.mul_comm (2 ^ (8 * i)) _, ← Nat.mul_assoc]]
    rw [Nat.add_mul_div_right _ _ (Nat.two_pow_pos _), show b * (256 * 2 ^ (8 * (ka - i - 1))) = 256 * (b * 2 ^ (8 * (ka - i - 1))) by rw [← Nat.mul_assoc, Nat.mul_comm b 256, Nat.mul_assoc], Nat.add_mul_mod_self_left]
  rw [this]
theorem byV_hi (a b ka j : Nat) : byV (a % 2 ^ (8 * ka) + b <<< (8 * ka)) (ka + j) = byV b j := by
  unfold byV
  have : (a % 2 ^ (8 * ka) + b <<< (8 * ka)) >>> (8 * (ka + j)) = b >>> (8 * j) := by
    have hp : 0 < 2 ^ (8 * ka) := Nat.two_pow_pos _
    rw [Nat.mul_add, Nat.shiftRight_add]
    congr 1
    rw [Nat.shiftLeft_eq, Nat.shiftRight_eq_div_pow, Nat.add_mul_div_right _ _ hp, Nat.div_eq_of_lt (Nat.mod_lt _ hp), Nat.zero_add]
  rw [this]
theorem bytV_join (a b ka kb : Nat) : bytV (a % 2 ^ (8 * ka) + b <<< (8 * ka)) (ka + kb) = bytV a ka ++ bytV b kb := by
  unfold bytV
  rw [List.range_add, List.map_append]
  congr 1
  · exact List.map_congr_left fun i hi => byV_lo a b ka i (List.mem_range.1 hi)
  · rw [List.map_map]
    exact List.map_congr_left fun i _ => byV_hi a b ka i
theorem bytV_one (m : Nat) (h : m < 256) : bytV m 1 = [.int .u8 (m : Int)] := by
  simp [bytV, byV, List.range_succ, Nat.mod_eq_of_lt h]
/-- two segments as one, if both are bytes -/
def meet : Seg → Seg → Option Seg
  | .byt a ka, .byt b kb => some (.byt (a % 2 ^ (8 * ka) + b <<< (8 * ka)) (ka + kb))
  | .one (.lit (.int .u8 (.ofNat m))), .byt b kb => match Nat.ble 256 m with
    | false => some (.byt (m % 2 ^ (8 * 1) + b <<< (8 * 1)) (1 + kb))
    | true => none
  | .byt a ka, .one (.lit (.int .u8 (.ofNat m))) => match Nat.ble 256 m with
    | false => some (.byt (a % 2 ^ (8 * ka) + m <<< (8 * ka)) (ka + 1))
    | true => none
  | _, _ => none
theorem not_ble {a b : Nat} (h : Nat.ble a b = false) : b < a := by
  rcases Nat.lt_or_ge b a with h1 | h1
  · exact h1
  · rw [Nat.ble_eq_true_of_le h1] at h; cases h
theorem meet_tr (e : Nv) {s t u : Seg} (h : meet s t = some u) : Seg.tr e u = Seg.tr e s ++ Seg.tr e t := by
  unfold meet at h
  split at h
  · injection h with h; subst h
    simp only [Seg.tr, bytV_join]
  · split at h
    · rename_i m b kb _ hm
      injection h with h; subst h
      have := not_ble hm
      simp only [Seg.tr, bytV_join, bytV_one _ this, RV.tr]; rfl
    · cases h
  · split at h
    · rename_i a ka m _ hm
      injection h with h; subst h
      have := not_ble hm
      simp only [Seg.tr, bytV_join, bytV_one _ this, RV.tr]; rfl
    · cases h
  · cases h
theorem meet_lt {n : Nat} {s t u : Seg} (h : meet s t = some u) : Seg.lt n u := by
  unfold meet at h
  split at h
  · injection h with h; subst h; trivial
  · split at h
    · injection h with h; subst h; trivial
    · cases h
  · split at h
    · injection h with h; subst h; trivial
    · cases h
  · cases h
def nrm : List Seg → List Seg
  | [] => []
  | s :: r => match nrm r with
    | [] => [s]
    | t :: q => match meet s t with
      | some u => u :: q
      | none => s :: t :: q
theorem nrm_tr (e : Nv) : ∀ l : List Seg, trS e (nrm l) = trS e l
  | [] => rfl
  | s :: r => by
    have ih := nrm_tr e r
    unfold nrm
    split
    · rename_i h; rw [h] at ih; simp only [trS] at ih ⊢; rw [← ih]
    · rename_i t q h
      rw [h] at ih
      split
      · rename_i u hu
        simp only [trS] at ih ⊢
        rw [meet_tr e hu, List.append_assoc, ih]
      · simp only [trS] at ih ⊢
        rw [ih]
theorem nrm_lt {n : Nat} : ∀ l : List Seg, ltS n l → ltS n (nrm l)
  | [], h => h
  | s :: r, h => by
    have ih := nrm_lt r h.2
    unfold nrm
    split
    · exact ⟨h.1, trivial⟩
    · rename_i t q hq
      rw [hq] at ih
      split
      · rename_i u hu; exact ⟨meet_lt hu, ih.2⟩
      · exact ⟨h.1, ih⟩
def putS (cs : List Seg) (o : Nat) (vs : List Seg) : List Seg := nrm (takeS cs o ++ (vs ++ dropS cs (o + lenS vs)))
theorem putS_tr (e : Nv) (cs : List Seg) (o : Nat) (vs : List Seg) : trS e (putS cs o vs) = (trS e cs).take o ++ trS e vs ++ (trS e cs).drop (o + lenS vs) := by
  unfold putS
  rw [nrm_tr, trS_app, trS_app, takeS_tr, dropS_tr, List.append_assoc]
theorem putS_lt {n : Nat} {cs vs : List Seg} (o : Nat) (h : ltS n cs) (hv : ltS n vs) : ltS n (putS cs o vs) :=
  nrm_lt _ (ltS_app (takeS_lt _ h) (ltS_app hv (dropS_lt _ h)))

/-! ### one-cell values -/
def RV.oneC : RV → Bool
  | .agg _ => false
  | .tup _ => false
  | .lit v => v.oneCell'
  | _ => true
theorem RV.oneC_tr (e : Nv) {v : RV} (h : v.oneC = true) : (RV.tr e v).oneCell' = true := by
  cases v <;> simp [RV.oneC, RV.tr, Value.oneCell'] at h ⊢
  exact h
def oneS : List Seg → Bool
  | [] => true
  | .one v :: r => match v.oneC with
    | true => oneS r
    | false => false
  | .byt _ _ :: r => oneS r
  | .rep v _ :: r => match v.oneC with
    | true => oneS r
    | false => false
theorem oneS_tr (e : Nv) : ∀ {l : List Seg}, oneS l = true → ∀ v ∈ trS e l, v.oneCell' = true
  | [], _, v, hv => by cases hv
  | .one x :: r, h, v, hv => by
    unfold oneS at h
    split at h
    · rename_i hx
      rcases List.mem_append.1 hv with h1 | h1
      · simp only [Seg.tr, List.mem_singleton] at h1
        subst h1; exact RV.oneC_tr e hx
      · exact oneS_tr e h v h1
    · cases h
  | .byt n k :: r, h, v, hv => by
    rcases List.mem_append.1 hv with h1 | h1
    · simp only [Seg.tr, bytV, List.mem_map] at h1
      obtain ⟨i, _, rfl⟩ := h1
      rfl
    · exact oneS_tr e (l := r) h v h1
  | .rep x k :: r, h, v, hv => by
    unfold oneS at h
    split at h
    · rename_i hx
      rcases List.mem_append.1 hv with h1 | h1
      · simp only [Seg.tr] at h1
        obtain ⟨_, rfl⟩ := List.mem_replicate.1 h1
        exact RV.oneC_tr e hx
      · exact oneS_tr e h v h1
    · cases h
theorem oneC_cells (e : Nv) {v : RV} (h : oneS v.segs = true) : (RV.tr e v).cells.toList = trS e v.segs := by
  refine RV.cells_tr e v fun u hu => ?_
  subst hu
  simp only [RV.segs, oneS, RV.oneC] at h
  split at h
  · rename_i hx
    cases u <;> simp [Value.oneCell'] at hx <;> rfl
  · cases h

/-- storing into a row whose frozen range is elsewhere -/
theorem run_storeCells_mk (P : Program) (g o : Nat) (t : TypeId) (fz : Nat × Nat) : ∀ (vs : List Value) (i : Nat) (cur : Array Value) (w : World), w.heap[g]? = some (.cells cur t fz) → frz fz cur.size → o + i + vs.length ≤ cur.size → (∀ v ∈ vs, v.oneCell' = true) →
    (storeCells ⟨g, o, none⟩ vs i).run P w = .ok () (w.setRow g (cur.toList.take (o + i) ++ vs ++ cur.toList.drop (o + i + vs.length)).toArray)
  | [], i, cur, w, hg, _, _, _ => by
    simp only [storeCells, List.append_nil, List.length_nil, Nat.add_zero, List.take_append_drop, Array.toArray_toList]
    rw [setRow_self w g cur t fz hg]
    rfl
  | v :: rest, i, cur, w, hg, hfz, hl, h1 => by
    have hi : o + i < cur.size := by simp at hl; omega
    have hadd : (⟨g, o, none⟩ : Addr).add i = ⟨g, o + i, none⟩ := Addr.add_mid ..
    have hcell : w.cell? ⟨g, o + i, none⟩ = some cur[o + i] := by simp [World.cell?, hg, hi]
    have hfro : w.frozen? ⟨g, o + i, none⟩ = false := by
      obtain ⟨lo, hi'⟩ := fz
      simp only [World.frozen?, hg, Bool.and_eq_false_iff, decide_eq_false_iff_not]
      rcases hfz with h0 | h0
      · right; injection h0 with h1 h2; omega
      · left; simp only at h0; omega
    have hst : (store ((⟨g, o, none⟩ : Addr).add i) v).run P w = .ok () (w.setRow g (cur.setIfInBounds (o + i) v)) := by
      rw [hadd, run_store P w _ v _ (h1 v (by simp)), hcell]
      simp [hfro, setCell_eq_setRow w g (o + i) cur t fz v hg]
    have ih := run_storeCells_mk P g o t fz rest (i + 1) (cur.setIfInBounds (o + i) v) (w.setRow g (cur.setIfInBounds (o + i) v)) (setRow_heap w g cur _ t _ hg) (by rw [Array.size_setIfInBounds]; exact hfz) (by simp at hl ⊢; omega) (fun x hx => h1 x (by simp [hx]))
    simp only [storeCells, Sem.run_bind, hst, Result.andThen_ok, ih, setRow_setRow]
    congr 3
    have e := list_seg_step cur.toList (o + i) v rest (by simp at hl ⊢; omega)
    simpa [Array.toList_setIfInBounds, Nat.add_assoc] using e
section
variable {P : Program} {Ty : Tr TypeInfo}
/-- storing into an object's cells, at the world -/
theorem RepH.store {B : Nat → Prop} {w0 w : World} {e : Nv} {h : Hp} (r : RepH B w0 e h w) {i : Nat} {y : RO} {cs : List Seg} {t : TypeId} (hi : h.at? i = some y) (hs : y.segs = some (cs, t)) (o : Nat) (vs : List Seg)
    (hlen : o + lenS vs ≤ lenS cs) (h1 : oneS vs = true) (hl : ltS h.nx vs) :
    ∃ w', (storeCells ⟨e.at_ i, o, none⟩ (trS e vs)).run P w = .ok () w' ∧ RepH B w0 e (h.put i (y.withS (putS cs o vs))) w' := by
  obtain ⟨sp, fr, hb, hmk⟩ := r.blk hi hs
  have hvl := trS_len e vs
  have hcl := trS_len e cs
  have hrun := run_storeCells_mk P (e.at_ i) o t fr (trS e vs) 0 (trS e cs ++ sp).toArray w hb (by simp [hcl]; exact hmk) (by simp; omega) (oneS_tr e h1)
  refine ⟨_, hrun, ?_⟩
  have hK : ((trS e cs ++ sp).toArray.toList.take (o + 0) ++ trS e vs ++ (trS e cs ++ sp).toArray.toList.drop (o + 0 + (trS e vs).length)) = trS e (putS cs o vs) ++ sp := by
    simp only [Nat.add_zero]
    rw [putS_tr, List.take_append_of_le_length (by omega), List.drop_append_of_le_length (by omega), hvl]
    simp only [List.append_assoc]
  rw [hK]
  refine r.setRow hi hb ?_ ?_
  · obtain ⟨_, _, hok, _⟩ := r.obj i y hi
    have hlp : lenS (putS cs o vs) = lenS cs := by
      rw [← trS_len e, putS_tr]
      simp only [List.length_append, List.length_take, List.length_drop, hvl, hcl]
      omega
    cases y with
    | cells c u =>
      simp only [RO.segs, Option.some.injEq, Prod.mk.injEq] at hs
      obtain ⟨rfl, rfl⟩ := hs
      obtain ⟨fr2, hok, hmk2⟩ := hok
      rw [hok] at hb
      injection hb with hb
      injection hb with hb _ hfr
      subst hfr
      have : sp = [] := by
        have := congrArg (fun a : Array Value => a.size) hb
        simp at this
        exact this
      subst this
      refine ⟨_, by rw [List.append_nil], ?_⟩
      rw [hlp]; exact hmk2
    | row c u sz =>
      simp only [RO.segs, Option.some.injEq, Prod.mk.injEq] at hs
      obtain ⟨rfl, rfl⟩ := hs
      obtain ⟨sp2, fr2, h2, h3, h4⟩ := hok
      rw [h2] at hb
      injection hb with hb
      injection hb with hb _ hfr
      subst hfr
      have : sp2 = sp := by
        have := congrArg Array.toList hb
        simpa using this
      subst this
      exact ⟨_, _, rfl, by rw [hlp]; exact h3, by rw [hlp]; exact h4⟩
    | map es c => cases hs
    | lop L => cases hs
    | dfr => cases hs
    | itr m s q l => cases hs
  · have hp := putS_lt (n := h.nx) o (r.inScope hi hs) hl
    cases y with
    | cells c u => exact hp
    | row c u sz => exact hp
    | map es c => cases hs
    | lop L => cases hs
    | dfr => cases hs
    | itr m s q l => cases hs
def evStore (Ty : Tr TypeInfo) (h : Hp) (t : TypeId) : RV → RV → Option Hp
  | .ptr b o, v => match h.at? b with
    | none => none
    | some x => match x.segs, szE Ty t with
      | some (cs, _), some n => match Nat.beq (lenS v.segs) n, Nat.ble (o + n) (lenS cs), oneS v.segs with
        | true, true, true => some (h.put b (x.withS (putS cs o v.segs)))
        | _, _, _ => none
      | _, _ => none
  | _, _ => none
theorem RV.segs_lt {n : Nat} {v : RV} (h : RV.lt n v) : ltS n v.segs := by
  cases v <;> first | exact ⟨h, trivial⟩ | exact h
theorem evStore_run (K : TyOk P Ty) {B : Nat → Prop} {w0 w : World} {e : Nv} {h h' : Hp} (r : RepH B w0 e h w) {t : TypeId} {x v : RV} (hl : RV.lt h.nx v) (hv : evStore Ty h t x v = some h') :
    ∃ w', (Instr.storeAt t (RV.tr e x) (RV.tr e v)).run P w = .ok () w' ∧ RepH B w0 e h' w' ∧ h'.nx = h.nx := by
  unfold evStore at hv
  split at hv
  · rename_i b o
    cases hb : h.at? b with
    | none => rw [hb] at hv; cases hv
    | some y =>
      rw [hb] at hv
      simp only at hv
      split at hv
      · rename_i cs ct n hs hn
        split at hv
        · rename_i h1 h2 h3
          injection hv with hv
          subst hv
          have h1 := Nat.eq_of_beq_eq_true h1
          have h2 := Nat.le_of_ble_eq_true h2
          obtain ⟨w', hrun, hrep⟩ := r.store (P := P) hb hs o v.segs (by omega) h3 (RV.segs_lt hl)
          refine ⟨w', ?_, hrep, rfl⟩
          have hc := oneC_cells e h3
          have hsz : (RV.tr e v).cells.size = n := by rw [← Array.length_toList, hc, trS_len]; exact h1
          simp only [RV.tr, Instr.storeAt, Instr.sureAddr, Sem.run_bind, Sem.run_pure, Result.andThen_ok, storeVar, K.size hn, hsz, ne_eq, not_true_eq_false, if_false, hc, hrun]
        · cases hv
      · cases hv
  · cases hv

/-! ### what is made -/
def pack : List Value → List Seg
  | [] => []
  | v :: r => match v, pack r with
    | .int .u8 (.ofNat m), .byt b kb :: q => match Nat.ble 256 m with
      | false => .byt (m % 2 ^ (8 * 1) + b <<< (8 * 1)) (1 + kb) :: q
      | true => .one (.lit v) :: .byt b kb :: q
    | .int .u8 (.ofNat m), q => match Nat.ble 256 m with
      | false => .byt m 1 :: q
      | true => .one (.lit v) :: q
    | .bool c, .rep (.lit (.bool d)) k :: q => match c == d with
      | true => .rep (.lit (.bool d)) (k + 1) :: q
      | false => .rep (.lit (.bool c)) 1 :: .rep (.lit (.bool d)) k :: q
    | .bool c, q => .rep (.lit (.bool c)) 1 :: q
    | v, q => .one (.lit v) :: q
theorem pack_tr (e : Nv) : ∀ l : List Value, trS e (pack l) = l
  | [] => rfl
  | v :: r => by
    have ih := pack_tr e r
    unfold pack
    split
    · rename_i m b kb q hq
      rw [hq] at ih
      simp only [trS, Seg.tr] at ih
      split
      · rename_i hm
        simp only [trS, Seg.tr, bytV_join, bytV_one _ (not_ble hm)]
        rw [List.append_assoc, ih]; rfl
      · simp only [trS, Seg.tr, RV.tr]; rw [ih]; rfl
    · rename_i m _ _
      split
      · rename_i hm
        simp only [trS, Seg.tr, bytV_one _ (not_ble hm)]; rw [ih]; rfl
      · simp only [trS, Seg.tr, RV.tr]; rw [ih]; rfl
    · rename_i c d k q hq
      rw [hq] at ih
      simp only [trS, Seg.tr, RV.tr] at ih
      split
      · rename_i hcd
        have hcd : c = d := by simpa using hcd
        subst hcd
        simp only [trS, Seg.tr, RV.tr, List.replicate_succ, List.cons_append]; rw [ih]
      · simp only [trS, Seg.tr, RV.tr, List.replicate_succ, List.replicate_zero, List.cons_append, List.nil_append]; rw [ih]
    · simp only [trS, Seg.tr, RV.tr, List.replicate_succ, List.replicate_zero, List.cons_append, List.nil_append]; rw [ih]
    · simp only [trS, Seg.tr, RV.tr]; rw [ih]; rfl
theorem pack_lt {n : Nat} : ∀ l : List Value, ltS n (pack l)
  | [] => trivial
  | v :: r => by
    have ih := pack_lt (n := n) r
    unfold pack
    split
    · rename_i hq
      rw [hq] at ih
      split
      · exact ⟨trivial, ih.2⟩
      · exact ⟨trivial, ih⟩
    · split <;> exact ⟨trivial, ih⟩
    · rename_i hq
      rw [hq] at ih
      split
      · exact ⟨trivial, ih.2⟩
      · exact ⟨trivial, ih⟩
    · exact ⟨trivial, ih⟩
    · exact ⟨trivial, ih⟩
def zerE (Ty : Tr TypeInfo) (t : TypeId) : Option Value := match Tr.get 10 Ty t with
  | some i => i.zero
  | none => none
theorem TyOk.zero (K : TyOk P Ty) {t : TypeId} {v : Value} (h : zerE Ty t = some v) (w : World) : (zeroValue t).run P w = .ok v w := by
  unfold zerE at h
  cases hi : Tr.get 10 Ty t with
  | none => rw [hi] at h; cases h
  | some i =>
    rw [hi] at h
    simp only at h
    simp [zeroValue, typeInfo, K.info t i hi, h]
def Hp.room (h : Hp) : Bool := Nat.ble (h.nx + 1) 8192
theorem Hp.room_lt {h : Hp} (hr : h.room = true) : h.nx < 2 ^ HD := Nat.le_of_ble_eq_true hr
def evAlloc (Ty : Tr TypeInfo) (h : Hp) (t : TypeId) : Option (RV × Hp) := match zerE Ty t, h.room with
  | some v, true => some (.ptr h.nx 0, h.add (.cells (pack v.cells.toList) t))
  | _, _ => none
theorem evAlloc_run (K : TyOk P Ty) {B : Nat → Prop} {w0 w : World} {e : Nv} {h h' : Hp} (r : RepH B w0 e h w) {t : TypeId} {v : RV} (hv : evAlloc Ty h t = some (v, h')) :
    ∃ e' w', (Instr.alloc t true (.tuple #[])).run P w = .ok (RV.tr e' v) w' ∧ Nv.ext h.nx e e' ∧ RepH B w0 e' h' w' ∧ h.nx ≤ h'.nx ∧ RV.lt h'.nx v := by
  unfold evAlloc at hv
  split at hv
  · rename_i z hz hr
    injection hv with hv
    injection hv with h1 h2
    subst h1; subst h2
    have hn := Hp.room_lt hr
    refine ⟨e.put h.nx w.heap.size 0, w.alloc (.cells z.cells t), ?_, Nv.put_ext _ _ _ _, r.make 0 hn ?_ (pack_lt _), Nat.le_succ _, Nat.lt_succ_self _⟩
    · simp only [Instr.alloc, Sem.run_bind, K.zero hz, Result.andThen_ok, newVar, newRow, newObj, RV.tr, Nv.put, if_true]; rfl
    · exact ⟨(0, 0), by rw [pack_tr, Array.toArray_toList], frz_zero _⟩
  · cases hv
def evBox (h : Hp) (t : TypeId) (x : RV) : Option (RV × Hp) := match oneS x.segs, h.room with
  | true, true => some (.ptr h.nx 0, h.add (.cells (nrm x.segs) t))
  | _, _ => none
theorem evBox_run {B : Nat → Prop} {w0 w : World} {e : Nv} {h h' : Hp} (r : RepH B w0 e h w) {t : TypeId} {x v : RV} (hl : RV.lt h.nx x) (hv : evBox h t x = some (v, h')) :
    ∃ e' w', (Instr.box t (RV.tr e x)).run P w = .ok (RV.tr e' v) w' ∧ Nv.ext h.nx e e' ∧ RepH B w0 e' h' w' ∧ h.nx ≤ h'.nx ∧ RV.lt h'.nx v := by
  unfold evBox at hv
  split at hv
  · rename_i h1 hr
    injection hv with hv
    injection hv with h2 h3
    subst h2; subst h3
    have hn := Hp.room_lt hr
    have hx := Nv.put_ext e h.nx w.heap.size 0
    have hsl := RV.segs_lt hl
    refine ⟨e.put h.nx w.heap.size 0, w.alloc (.cells (RV.tr e x).cells t), ?_, hx, r.make 0 hn ?_ (ltS_mono (Nat.le_succ _) _ (nrm_lt _ hsl)), Nat.le_succ _, Nat.lt_succ_self _⟩
    · simp only [Instr.box, Sem.run_bind, newVar, newRow, newObj, RV.tr, Nv.put, if_true]; rfl
    · exact ⟨(0, 0), by rw [nrm_tr, trS_ext hx _ hsl, ← oneC_cells e h1, Array.toArray_toList], frz_zero _⟩
  · cases hv
end
end Go.Proofs.YtlfljoeafpimpaaGreatDoor
namespace Go.Proofs.YtlfljoeafpimpaaGreatDoor
open Go.RowKit

section
variable {P : Program} {Ty : Tr TypeInfo}
def evField (Ty : Tr TypeInfo) (t : TypeId) (f : Nat) : RV → Option RV
  | .ptr b o => match undE Ty t with
    | some (.struct fs) => match fs.toList[f]? with
      | some g => match szE Ty g.type with
        | some (_ + 1) => some (.ptr b (o + g.offset))
        | _ => none
      | none => none
    | _ => none
  | _ => none
theorem evField_run (K : TyOk P Ty) {e : Nv} {t : TypeId} {f n : Nat} {x v : RV} (hl : RV.lt n x) (hv : evField Ty t f x = some v) (w : World) :
    (Instr.fieldAt t (RV.tr e x) f).run P w = .ok (RV.tr e v) w ∧ RV.lt n v := by
  unfold evField at hv
  split at hv
  · split at hv
    · rename_i b o fs hu
      split at hv
      · rename_i g hg
        split at hv
        · rename_i m hm
          injection hv with hv
          subst hv
          rw [Array.getElem?_toList] at hg
          refine ⟨?_, hl⟩
          simp only [Instr.fieldAt, Sem.run_bind, K.undRun hu, Result.andThen_ok, hg, RV.tr, Instr.sureAddr, Sem.run_pure, fieldPlace, K.size hm, Addr.add_mid]
          simp
        · cases hv
      · cases hv
    · cases hv
  · cases hv
/-- a slice's row: its block, its offset, its length -/
def rowOf : RV → Option (Nat × Nat × Nat)
  | .sl b o n _ => some (b, o, n)
  | .slu b o n _ => some (b, o, n)
  | _ => none
theorem rowOf_tr (e : Nv) {x : RV} {b o n : Nat} (h : rowOf x = some (b, o, n)) : ∃ c, RV.tr e x = .slice (some ⟨e.at_ b, o, none⟩) n c := by
  unfold rowOf at h
  split at h
  · cases h; exact ⟨_, rfl⟩
  · cases h; exact ⟨_, rfl⟩
  · cases h
theorem rowOf_lt {m : Nat} {x : RV} {b o n : Nat} (h : rowOf x = some (b, o, n)) (hl : RV.lt m x) : b < m := by
  unfold rowOf at h
  split at h
  · cases h; exact hl
  · cases h; exact hl
  · cases h
def evIndexA (Ty : Tr TypeInfo) (t : TypeId) (x i : RV) : Option RV :=
  match i, undE Ty t with
  | .lit (.int _ (.ofNat m)), some (.array len el) => match x, szE Ty el, Nat.ble (m + 1) len with
    | .ptr b o, some s, true => some (.ptr b (o + m * s))
    | _, _, _ => none
  | .lit (.int _ (.ofNat m)), some (.slice el) => match rowOf x, szE Ty el with
    | some (b, o, n), some s => match Nat.ble (m + 1) n with
      | true => some (.ptr b (o + m * s))
      | false => none
    | _, _ => none
  | _, _ => none
theorem evIndexA_run (K : TyOk P Ty) {e : Nv} {t : TypeId} {n : Nat} {x i v : RV} (hl : RV.lt n x) (hv : evIndexA Ty t x i = some v) (w : World) :
    (Instr.indexAt t (RV.tr e x) (RV.tr e i)).run P w = .ok (RV.tr e v) w ∧ RV.lt n v := by
  unfold evIndexA at hv
  split at hv
  · rename_i k m len el hu
    split at hv
    · rename_i b o s hs hm
      injection hv with hv
      subst hv
      have hm := Nat.le_of_ble_eq_true hm
      refine ⟨?_, hl⟩
      have h1 : (0 : Int) ≤ (m : Int) ∧ (m : Int) < (len : Int) := ⟨by omega, by omega⟩
      simp only [Instr.indexAt, RV.tr, asIntOf, Sem.run_bind, Sem.run_pure, Result.andThen_ok, K.undRun hu, Instr.sureAddr, h1, and_self, if_true, K.size hs, Addr.add_mid, Int.toNat_natCast, Int.ofNat_eq_natCast]
    · cases hv
  · rename_i k m el hu
    split at hv
    · rename_i b o len s hr hs
      split at hv
      · rename_i hm
        injection hv with hv
        subst hv
        have hm := Nat.le_of_ble_eq_true hm
        obtain ⟨c, hx⟩ := rowOf_tr e hr
        refine ⟨?_, rowOf_lt hr hl⟩
        have h1 : (0 : Int) ≤ (m : Int) ∧ (m : Int) < (len : Int) := ⟨by omega, by omega⟩
        rw [hx]
        simp only [Instr.indexAt, RV.tr, asIntOf, Sem.run_bind, Sem.run_pure, Result.andThen_ok, K.undRun hu, h1, and_self, if_true, K.size hs, Addr.add_mid, Int.toNat_natCast, Int.ofNat_eq_natCast]
      · cases hv
    · cases hv
  · cases hv
/-- a part of a struct or an array -/
def evPart (Ty : Tr TypeInfo) (t : TypeId) (cs : List Seg) (o : Nat) : Option RV :=
  match szE Ty t, aggE Ty t with
  | some n, some true => match Nat.beq (lenS (takeS (dropS cs o) n)) n with
    | true => some (.agg (takeS (dropS cs o) n))
    | false => none
  | some _, some false => oneOf (takeS (dropS cs o) 1)
  | _, _ => none
theorem evPart_run (K : TyOk P Ty) {e : Nv} {t : TypeId} {m o : Nat} {cs : List Seg} {v : RV} (hl : ltS m cs) (hv : evPart Ty t cs o = some v) (w : World) :
    (part t (trS e cs).toArray o).run P w = .ok (RV.tr e v) w ∧ RV.lt m v := by
  unfold evPart at hv
  split at hv
  · rename_i n hn ha
    split at hv
    · rename_i hlen
      injection hv with hv
      subst hv
      have hlen := Nat.eq_of_beq_eq_true hlen
      refine ⟨?_, takeS_lt _ (dropS_lt _ hl)⟩
      simp only [part, Sem.run_bind, K.agg ha, Result.andThen_ok, if_true, K.size hn, Sem.run_pure, RV.tr, takeS_tr, dropS_tr]
      congr 2
      apply Array.ext'
      simp [List.extract_toArray]
    · cases hv
  · rename_i n hn ha
    have h1 := oneOf_tr e hv
    refine ⟨?_, oneOf_lt hv (takeS_lt _ (dropS_lt _ hl))⟩
    rw [takeS_tr, dropS_tr] at h1
    have h2 : (trS e cs)[o]? = some (RV.tr e v) := by
      have := congrArg (fun l : List Value => l[0]?) h1
      simpa [List.getElem?_take, List.getElem?_drop] using this
    simp [part, Sem.run_bind, K.agg ha, h2]
  · cases hv
theorem evPart_run' (K : TyOk P Ty) {e : Nv} {t : TypeId} {o : Nat} {cs : List Seg} {v : RV} (hv : evPart Ty t cs o = some v) (w : World) :
    (part t (trS e cs).toArray o).run P w = .ok (RV.tr e v) w := by
  unfold evPart at hv
  split at hv
  · rename_i n hn ha
    split at hv
    · rename_i hlen
      injection hv with hv
      subst hv
      simp only [part, Sem.run_bind, K.agg ha, Result.andThen_ok, if_true, K.size hn, Sem.run_pure, RV.tr, takeS_tr, dropS_tr]
      congr 2
      apply Array.ext'
      simp [List.extract_toArray]
    · cases hv
  · rename_i n hn ha
    have h1 := oneOf_tr e hv
    rw [takeS_tr, dropS_tr] at h1
    have h2 : (trS e cs)[o]? = some (RV.tr e v) := by
      have := congrArg (fun l : List Value => l[0]?) h1
      simpa [List.getElem?_take, List.getElem?_drop] using this
    simp [part, Sem.run_bind, K.agg ha, h2]
  · cases hv
def evFieldV (Ty : Tr TypeInfo) (t : TypeId) (f : Nat) : RV → Option RV
  | .agg cs => match undE Ty t with
    | some (.struct fs) => match fs.toList[f]? with
      | some g => evPart Ty g.type cs g.offset
      | none => none
    | _ => none
  | _ => none
theorem evFieldV_run (K : TyOk P Ty) {e : Nv} {t : TypeId} {f n : Nat} {x v : RV} (hl : RV.lt n x) (hv : evFieldV Ty t f x = some v) (w : World) :
    (Instr.field t (RV.tr e x) f).run P w = .ok (RV.tr e v) w ∧ RV.lt n v := by
  unfold evFieldV at hv
  split at hv
  · split at hv
    · rename_i cs fs hu
      split at hv
      · rename_i g hg
        rw [Array.getElem?_toList] at hg
        obtain ⟨h1, h2⟩ := evPart_run K (e := e) hl hv w
        refine ⟨?_, h2⟩
        simp only [Instr.field, Sem.run_bind, K.undRun hu, Result.andThen_ok, hg, RV.tr, asAgg, Sem.run_pure]
        exact h1
      · cases hv
    · cases hv
  · cases hv
def evIndexV (Ty : Tr TypeInfo) (t : TypeId) (x i : RV) : Option RV :=
  match i, undE Ty t, x with
  | .lit (.int _ (.ofNat m)), some (.array len el), .agg cs => match szE Ty el, Nat.ble (m + 1) len with
    | some s, true => evPart Ty el cs (m * s)
    | _, _ => none
  | .lit (.int _ (.ofNat m)), some .string, .lit (.string s) => match s.data.toList[m]? with
    | some c => some (.lit (.int .u8 c.toNat))
    | none => none
  | _, _, _ => none
theorem evIndexV_run (K : TyOk P Ty) {e : Nv} {t : TypeId} {n : Nat} {x i v : RV} (hl : RV.lt n x) (hv : evIndexV Ty t x i = some v) (w : World) :
    (Instr.index t (RV.tr e x) (RV.tr e i)).run P w = .ok (RV.tr e v) w ∧ RV.lt n v := by
  unfold evIndexV at hv
  split at hv
  · rename_i k m len el cs hu
    split at hv
    · rename_i s hs hm
      have hm := Nat.le_of_ble_eq_true hm
      obtain ⟨h1, h2⟩ := evPart_run K (e := e) hl hv w
      refine ⟨?_, h2⟩
      have h3 : (0 : Int) ≤ (m : Int) ∧ (m : Int) < (len : Int) := ⟨by omega, by omega⟩
      simp only [Instr.index, RV.tr, asIntOf, Sem.run_bind, Sem.run_pure, Result.andThen_ok, K.undRun hu, h3, and_self, if_true, K.size hs, Int.toNat_natCast, Int.ofNat_eq_natCast]
      exact h1
    · cases hv
  · rename_i k m s hu
    split at hv
    · rename_i c hc
      injection hv with hv
      subst hv
      refine ⟨?_, trivial⟩
      have h3 : (0 : Int) ≤ (m : Int) := by omega
      have h4 : s[m]? = some c := by
        obtain ⟨hm, hcc⟩ := List.getElem?_eq_some_iff.1 hc
        rw [getElem?_pos s m (by simpa using hm)]
        rw [← hcc]; rfl
      simp only [Instr.index, RV.tr, asIntOf, Sem.run_bind, Sem.run_pure, Result.andThen_ok, K.undRun hu, h3, if_true, Int.toNat_natCast, Int.ofNat_eq_natCast, h4]
    · cases hv
  · cases hv
def evExtract (k : Nat) : RV → Option RV
  | .tup vs => vs[k]?
  | _ => none
theorem evExtract_run {e : Nv} {k n : Nat} {x v : RV} (hl : RV.lt n x) (hv : evExtract k x = some v) (w : World) :
    (Instr.extract (RV.tr e x) k).run P w = .ok (RV.tr e v) w ∧ RV.lt n v := by
  unfold evExtract at hv
  split at hv
  · rename_i vs
    refine ⟨?_, ltL_mem.1 hl v (List.mem_of_getElem? hv)⟩
    have : (trL e vs).toArray[k]? = some (RV.tr e v) := by
      rw [List.getElem?_toArray, trL_map, List.getElem?_map, hv]; rfl
    simp only [RV.tr, Instr.extract, this, Sem.run_pure]
  · cases hv
end
end Go.Proofs.YtlfljoeafpimpaaGreatDoor
namespace Go.Proofs.YtlfljoeafpimpaaGreatDoor
open Go.RowKit

section
variable {P : Program} {Ty : Tr TypeInfo}
def wrB (k : IntKind) (n : Int) : Option Value := some (.int k (k.wrap n))
def boB (b : Bool) : Option Value := some (.bool b)
def quoB (k : IntKind) (x y : Int) : Option Value := match decide (y = 0) with
  | true => none
  | false => some (.int k (k.wrap (x.tdiv y)))
def remB (k : IntKind) (x y : Int) : Option Value := match decide (y = 0) with
  | true => none
  | false => some (.int k (x.tmod y))
def andB (k : IntKind) (x y : Int) : Option Value := some (.int k (k.wrap ((BitVec.ofInt k.bits x) &&& (BitVec.ofInt k.bits y)).toNat))
def orB (k : IntKind) (x y : Int) : Option Value := some (.int k (k.wrap ((BitVec.ofInt k.bits x) ||| (BitVec.ofInt k.bits y)).toNat))
def xorB (k : IntKind) (x y : Int) : Option Value := some (.int k (k.wrap ((BitVec.ofInt k.bits x) ^^^ (BitVec.ofInt k.bits y)).toNat))
def andNotB (k : IntKind) (x y : Int) : Option Value := some (.int k (k.wrap ((BitVec.ofInt k.bits x) &&& ~~~(BitVec.ofInt k.bits y)).toNat))
def intB (op : BinOp) (k : IntKind) (x y : Int) : Option Value :=
  match op with
  | .add => wrB k (x + y)
  | .sub => wrB k (x - y)
  | .mul => wrB k (x * y)
  | .quo => quoB k x y
  | .rem => remB k x y
  | .and => andB k x y
  | .or => orB k x y
  | .xor => xorB k x y
  | .andNot => andNotB k x y
  | .eql => boB (x == y)
  | .neq => boB (x != y)
  | .lss => boB (x < y)
  | .leq => boB (x ≤ y)
  | .gtr => boB (x > y)
  | .geq => boB (x ≥ y)
  | _ => none
theorem intB_run {op : BinOp} {k : IntKind} {x y : Int} {v : Value} (h : intB op k x y = some v) (hs : op ≠ .shl ∧ op ≠ .shr) (t : TypeId) (w : World) : (binOp op t (.int k x) (.int k y)).run P w = .ok v w := by
  cases op <;> simp [intB, wrB, boB, quoB, remB, andB, orB, xorB, andNotB] at h hs <;> first
    | (subst h; simp [binOp, Op.intArith, Op.intBits, Op.intCmp])
    | (split at h
       · cases h
       · rename_i h0
         have h0 : ¬ y = 0 := by simpa using h0
         simp only [Option.some.injEq] at h
         subst h
         simp [binOp, Op.intDiv, h0])
def shiftB (op : BinOp) (k : IntKind) (x y : Int) : Option Value :=
  match decide (y < 0), op with
  | false, .shl => some (.int k (k.wrap (x * 2 ^ (min y.toNat k.bits))))
  | false, .shr => some (.int k (x.fdiv (2 ^ (min y.toNat k.bits))))
  | _, _ => none
theorem shiftB_run {op : BinOp} {k j : IntKind} {x y : Int} {v : Value} (h : shiftB op k x y = some v) (t : TypeId) (w : World) : (binOp op t (.int k x) (.int j y)).run P w = .ok v w := by
  unfold shiftB at h
  split at h
  · rename_i h0
    have h0 : ¬ y < 0 := by simpa using h0
    injection h with h
    subst h
    simp [binOp, Op.shift, h0]
  · rename_i h0
    have h0 : ¬ y < 0 := by simpa using h0
    injection h with h
    subst h
    simp [binOp, Op.shift, h0]
  · cases h
def strB (op : BinOp) (x y : ByteArray) : Option Value :=
  match op with
  | .add => match Nat.ble (x.size + y.size) 1000000000 with
    | true => some (.string (x ++ y))
    | false => none
  | .eql => some (.bool (x.data.toList == y.data.toList))
  | .neq => some (.bool !(x.data.toList == y.data.toList))
  | .lss => some (.bool (Op.bytesLess x.data.toList y.data.toList))
  | .geq => some (.bool !(Op.bytesLess x.data.toList y.data.toList))
  | .gtr => some (.bool !(Op.bytesLess x.data.toList y.data.toList || x.data.toList == y.data.toList))
  | .leq => some (.bool (Op.bytesLess x.data.toList y.data.toList || x.data.toList == y.data.toList))
  | _ => none
theorem strB_run {op : BinOp} {x y : ByteArray} {v : Value} (h : strB op x y = some v) (t : TypeId) (w : World) : (binOp op t (.string x) (.string y)).run P w = .ok v w := by
  cases op <;> simp only [strB] at h <;> first
    | (cases h; done)
    | (injection h with h; subst h; simp only [binOp, Op.stringOp, ByteArray.toList_eq]; rfl)
    | (split at h
       · rename_i h0
         have h0 := Nat.le_of_ble_eq_true h0
         injection h with h
         subst h
         have h1 : ¬ (((x.size + y.size : Nat) : Int) > IntKind.i64.max) := by
           have : IntKind.i64.max = 9223372036854775807 := rfl
           rw [this]; omega
         simp only [binOp, Op.stringOp, h1, if_false]
         rfl
       · cases h)
/-- is one the other, where one at least is nil? -/
def nilEq : TypeDesc → RV → RV → Option Bool
  | .pointer _, .lit (.pointer none), .lit (.pointer none) => some true
  | .pointer _, .ptr _ _, .lit (.pointer none) => some false
  | .pointer _, .lit (.pointer none), .ptr _ _ => some false
  | .slice _, .lit (.slice none _ _), .lit (.slice none _ _) => some true
  | .slice _, .sl _ _ _ _, .lit (.slice none _ _) => some false
  | .slice _, .slu _ _ _ _, .lit (.slice none _ _) => some false
  | .slice _, .sle _ _ _ _, .lit (.slice none _ _) => some false
  | .map _ _, .lit (.map none), .lit (.map none) => some true
  | .map _ _, .mp _, .lit (.map none) => some false
  | .func _ _ _, .lit .nilFunc, .lit .nilFunc => some true
  | .func _ _ _, .fn _ _ _, .lit .nilFunc => some false
  | .func _ _ _, .yld _, .lit .nilFunc => some false
  | .interface _, .ifc _ _, .lit .nilIface => some false
  | .interface _, .lit .nilIface, .lit .nilIface => some true
  | .bool, .lit (.bool a), .lit (.bool b) => some (a == b)
  | _, _, _ => none
theorem nilEq_in {e : Nv} {t : TypeId} {d : TypeDesc} {x y : RV} {b : Bool} (hur : ∀ w, (underlying t).run P w = .ok d w) (hx : nilEq d x y = some b) (w : World) (n : Nat) :
    (Op.equalIn (n + 1) t (RV.tr e x) (RV.tr e y)).run P w = .ok b w := by
  unfold nilEq at hx
  split at hx <;> first
    | (cases hx; done)
    | (injection hx with hx
       subst hx
       simp only [RV.tr, Op.equalIn, Sem.run_bind, hur, Result.andThen_ok]
       first
         | rfl
         | (split <;> rfl)
         | simp)
theorem nilEq_run (K : TyOk P Ty) {e : Nv} {t : TypeId} {d : TypeDesc} {x y : RV} {b : Bool} (hu : undE Ty t = some d) (hx : nilEq d x y = some b) (w : World) :
    (Op.equal t (RV.tr e x) (RV.tr e y)).run P w = .ok b w := nilEq_in (K.undRun hu) hx w 9999
/-- comparisons and arithmetic -/
def isShift : BinOp → Bool
  | .shl => true
  | .shr => true
  | _ => false
def intBB (op : BinOp) (k : IntKind) (a : Int) (j : IntKind) (b : Int) : Option RV := match isShift op with
  | true => (shiftB op k a b).map .lit
  | false => match decide (k = j) with
    | true => (intB op k a b).map .lit
    | false => none
def litB (op : BinOp) (a b : Value) : Option RV := match a with
  | .int k x => match b with
    | .int j y => intBB op k x j y
    | _ => none
  | .string x => match b with
    | .string y => (strB op x y).map .lit
    | _ => none
  | _ => none
def evBin (op : BinOp) (x y : RV) : Option RV := match x with
  | .lit a => match y with
    | .lit b => litB op a b
    | _ => none
  | _ => none
theorem evBin_run {e : Nv} {op : BinOp} {t : TypeId} {x y v : RV} (hv : evBin op x y = some v) (w : World) : (binOp op t (RV.tr e x) (RV.tr e y)).run P w = .ok (RV.tr e v) w ∧ ∃ u, v = .lit u := by
  unfold evBin at hv
  split at hv
  · split at hv
    · unfold litB at hv
      split at hv
      · split at hv
        · unfold intBB at hv
          split at hv
          · obtain ⟨u, h1, rfl⟩ := Option.map_eq_some_iff.1 hv
            exact ⟨shiftB_run h1 t w, u, rfl⟩
          · rename_i hsh
            split at hv
            · rename_i hk
              obtain rfl := of_decide_eq_true hk
              obtain ⟨u, h1, rfl⟩ := Option.map_eq_some_iff.1 hv
              refine ⟨intB_run h1 ?_ t w, u, rfl⟩
              constructor <;> (intro e; subst e; cases hsh)
            · cases hv
        · cases hv
      · split at hv
        · obtain ⟨u, h1, rfl⟩ := Option.map_eq_some_iff.1 hv
          exact ⟨strB_run h1 t w, u, rfl⟩
        · cases hv
      · cases hv
    · cases hv
  · cases hv
end
end Go.Proofs.YtlfljoeafpimpaaGreatDoor
