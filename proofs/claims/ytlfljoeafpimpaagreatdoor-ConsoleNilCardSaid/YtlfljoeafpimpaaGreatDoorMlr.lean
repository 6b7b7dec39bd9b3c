/- The evaluator: loops over maps of any number of entries, each round of which turns a block of its own. The evaluator: loops over maps of any number of entries, each round of which turns a block of its own: the loop. The evaluator: loops over maps of any number of entries, each round of which turns a block of its own: all rounds. The evaluator: code with loops over maps; a function that has such a loop. -/
import Derived.Test.YtlfljoeafpimpaaGreatDoorEvt
import Derived.Test.YtlfljoeafpimpaaGreatDoorEwd
import Derived.Test.YtlfljoeafpimpaaGreatDoorPur
import Derived.Maps.Range
import Derived.Test.YtlfljoeafpimpaaGreatDoorOrd
namespace Go.Proofs.YtlfljoeafpimpaaGreatDoor
open Go.RowKit Go.ChangeMaps

/-! ### parts of a heap -/
noncomputable def subT (h : Hp) (l : List Nat) : Tr RO := List.rec (motive := fun _ => Tr RO) .nil (fun i _ t => match h.at? i with
  | some o => Tr.set HD t i (.leaf o)
  | none => t) l
noncomputable def subH (h : Hp) (l : List Nat) : Hp := ⟨h.nx, subT h l⟩
theorem subT_cons (h : Hp) (j : Nat) (l : List Nat) : subT h (j :: l) = match h.at? j with
  | some o => Tr.set HD (subT h l) j (.leaf o)
  | none => subT h l := rfl
theorem subH_in {h : Hp} : ∀ {l : List Nat} {i : Nat} {o : RO}, i ∈ l → h.at? i = some o → (subH h l).at? i = some o
  | [], i, o, hi, _ => by cases hi
  | j :: l, i, o, hi, ho => by
    show Tr.get HD (subT h (j :: l)) i = some o
    rw [subT_cons]
    by_cases hij : j = i
    · subst hij
      rw [ho]
      exact Tr.get_set_same HD _ j o (at_small ho)
    · have hi2 : i ∈ l := by
        rcases List.mem_cons.1 hi with h1 | h1
        · exact (hij h1.symm).elim
        · exact h1
      have ih : Tr.get HD (subT h l) i = some o := subH_in hi2 ho
      split
      · rename_i o' ho'
        rw [Tr.get_set_other HD _ j i _ (at_small ho') hij]; exact ih
      · exact ih
theorem subH_out {h : Hp} : ∀ {l : List Nat} {i : Nat} {o : RO}, (subH h l).at? i = some o → i ∈ l ∧ h.at? i = some o
  | [], i, o, hi => by
    have : (subH h []).at? i = none := Tr.get_nil HD i
    rw [this] at hi; cases hi
  | j :: l, i, o, hi => by
    replace hi : Tr.get HD (subT h (j :: l)) i = some o := hi
    rw [subT_cons] at hi
    split at hi
    · rename_i o' ho'
      by_cases hij : j = i
      · subst hij
        rw [Tr.get_set_same HD _ j o' (at_small ho')] at hi
        injection hi with hi; subst hi
        exact ⟨List.mem_cons_self .., ho'⟩
      · rw [Tr.get_set_other HD _ j i _ (at_small ho') hij] at hi
        obtain ⟨h1, h2⟩ := subH_out (l := l) hi
        exact ⟨List.mem_cons_of_mem _ h1, h2⟩
    · obtain ⟨h1, h2⟩ := subH_out (l := l) hi
      exact ⟨List.mem_cons_of_mem _ h1, h2⟩
def foot (h : Hp) (l : List Nat) (e : Nv) : Nat → Prop := fun j => ∃ i o, i ∈ l ∧ h.at? i = some o ∧ j = e.at_ i
section
variable {P : Program} {Ty : Tr TypeInfo} {B : Nat → Prop} {w0 w w' : World} {e e' : Nv} {h H h5 : Hp} {call : CallE} {lf : Nat}
theorem RepH.same (r : RepH B w0 e h w) {k : Hp} (hn : k.nx = h.nx) (ha : ∀ i, k.at? i = h.at? i) : RepH B w0 e k w :=
  ⟨r.below, fun i o hi => by
    rw [ha] at hi
    obtain ⟨h1, h2, h3, h4⟩ := r.obj i o hi
    exact ⟨by rw [hn]; exact h1, h2, h3, by rw [hn]; exact h4⟩, fun i j a b hi hj => by
    rw [ha] at hi hj
    exact r.inj i j a b hi hj, r.env⟩
/-- a part of a heap, seen by itself -/
theorem sub_rep (r : RepH B w0 e H w) {l : List Nat} (hn : h.nx = H.nx) (heq : ∀ i ∈ l, H.at? i = h.at? i) : RepH (foot h l e) w e (subH h l) w :=
  ⟨Tn.refl _ w, fun i o hi => by
    obtain ⟨h1, h2⟩ := subH_out hi
    obtain ⟨k1, _, k3, k4⟩ := r.obj i o (by rw [heq i h1]; exact h2)
    exact ⟨by show i < h.nx; rw [hn]; exact k1, fun _ => ⟨i, o, h1, h2, rfl⟩, k3, by show RO.lt h.nx o; rw [hn]; exact k4⟩,
  fun i j a b hi hj => by
    obtain ⟨h1, h2⟩ := subH_out hi
    obtain ⟨k1, k2⟩ := subH_out hj
    exact r.inj i j a b (by rw [heq i h1]; exact h2) (by rw [heq j k1]; exact k2), r.envSub fun k hk => by
    obtain ⟨i, o, hi, ho, rfl⟩ := hk
    exact (r.obj i o (by rw [heq i hi]; exact ho)).2.1⟩
/-- behind a run that saw a part of the heap alone, and turned one block of it -/
theorem back_rep (r : RepH B w0 e H w) {l : List Nat} {b : Nat} {N ob : RO} (hn : h.nx = H.nx) (heq : ∀ i ∈ l, H.at? i = h.at? i) (r5 : RepH (foot h l e) w e' h5 w') (hx : Nv.ext h.nx e e')
    (hob : H.at? b = some ob) (hN : h5.at? b = some N) (hlit : litRO N = true) (hoth : ∀ i ∈ l, i ≠ b → ∀ o, h.at? i = some o → h5.at? i = some o) : RepH B w0 e (H.put b N) w' := by
  have hbn : b < H.nx := (r.obj b ob hob).1
  have hsm := at_small hob
  have hsym : Nv.ext H.nx e' e := fun i hi => by
    have := hx i (by rw [hn]; exact hi)
    exact ⟨this.1.symm, this.2.symm⟩
  have hnot : ∀ i o, H.at? i = some o → i ∉ l → ¬ foot h l e (e.at_ i) := by
    rintro i o hi hil ⟨j, o2, hj, ho2, he⟩
    have := r.inj i j o o2 hi (by rw [heq j hj]; exact ho2) he
    subst this; exact hil hj
  have hown : ∀ j, foot h l e j → Own B w0 j := by
    rintro j ⟨i, o, hi, ho, rfl⟩
    exact (r.obj i o (by rw [heq i hi]; exact ho)).2.1
  have g : ∀ m x, (H.put b N).at? m = some x → ∃ y, H.at? m = some y := fun m x hm => by
    by_cases hbm : b = m
    · subst hbm; exact ⟨ob, hob⟩
    · rw [put_other N hsm hbm] at hm; exact ⟨x, hm⟩
  refine ⟨⟨r5.below.os.trans r.below.os, r5.below.tape.trans r.below.tape, r5.below.output.trans r.below.output, Nat.le_trans r.below.size r5.below.size, fun j hj hnb => ?_⟩, fun i o hi => ?_, fun i j a c hi hj hij => ?_, r.env⟩
  · rw [r5.below.block j (Nat.lt_of_lt_of_le hj r.below.size) (fun hf => hnb (hown j hf hj))]
    exact r.below.block j hj hnb
  · by_cases hbi : b = i
    · subst hbi
      rw [put_same N hsm] at hi
      injection hi with hi; subst hi
      obtain ⟨_, _, k3, _⟩ := r5.obj b N hN
      obtain ⟨hltn, _⟩ := litRO_lt hlit H.nx
      have hk := RO.ok_ext hsym hbn hltn k3
      rw [(hx b (by rw [hn]; exact hbn)).1] at hk
      exact ⟨hbn, (r.obj b ob hob).2.1, hk, hltn⟩
    · rw [put_other N hsm hbi] at hi
      obtain ⟨k1, k2, k3, k4⟩ := r.obj i o hi
      refine ⟨k1, k2, ?_, k4⟩
      by_cases hil : i ∈ l
      · obtain ⟨_, _, m3, _⟩ := r5.obj i o (hoth i hil (Ne.symm hbi) o (by rw [← heq i hil]; exact hi))
        have hk := RO.ok_ext hsym k1 k4 m3
        rw [(hx i (by rw [hn]; exact k1)).1] at hk
        exact hk
      · rw [r5.below.block _ (r.live hi) (hnot i o hi hil)]; exact k3
  · obtain ⟨y, hy⟩ := g i a hi
    obtain ⟨z, hz⟩ := g j c hj
    exact r.inj i j y z hy hz hij
/-! ### frames: what is forgotten, what is kept -/
noncomputable def Fr.clear (F : Fr) (cs : List Nat) : Fr := ⟨F.nt, List.rec (motive := fun _ => Tr RV) F.T (fun c _ T => putR T c .nil) cs, F.D, F.ro⟩
theorem RepF.clear {nx : Nat} {F : Fr} {a : Act} (f : RepF e nx F a) : ∀ {cs : List Nat}, (cs.all fun c => Nat.ble (c + 1) F.nt) = true → RepF e nx (F.clear cs) a
  | [], _ => f
  | c :: cs, hc => by
    rw [List.all_cons, Bool.and_eq_true] at hc
    have ih := f.clear hc.2
    have hcl : c < F.nt := Nat.le_of_ble_eq_true hc.1
    obtain ⟨d, hf, hn⟩ := ih.fullT
    exact ⟨ih.size, ⟨d, full_putN d _ c hf, hn⟩, fun i v hi hv => ih.tmp i v hi (getR_putN d _ c i v hf (Nat.lt_of_lt_of_le hcl hn) (Nat.lt_of_lt_of_le hi hn) hv), ih.defers, ih.dlt, ih.rlt⟩
noncomputable def leT : Tr RV → Tr RV → Bool := Tr.rec (motive := fun _ => Tr RV → Bool) (fun _ => true) (fun v u => match u with
    | .leaf u => eqRV v u
    | _ => false) (fun _ _ il ir u => match u with
    | .node a b => il a && ir b
    | _ => false)
theorem leT_get : ∀ {t u : Tr RV}, leT t u = true → ∀ {i : Nat} {v : RV}, getR t i = some v → getR u i = some v
  | .nil, _, _, _, _, hv => by cases hv
  | .leaf x, .nil, h, _, _, _ => by cases h
  | .leaf x, .leaf y, h, _, v, hv => by
    have h1 := eqRV_eq (u := x) (v := y) h
    subst h1; exact hv
  | .leaf x, .node _ _, h, _, _, _ => by cases h
  | .node _ _, .nil, h, _, _, _ => by cases h
  | .node _ _, .leaf _, h, _, _, _ => by cases h
  | .node a b, .node c d, h, i, v, hv => by
    replace h : (leT a c && leT b d) = true := h
    rw [Bool.and_eq_true] at h
    rw [getR_node] at hv ⊢
    split at hv
    · rename_i h0
      rw [if_pos h0]; exact leT_get h.1 hv
    · rename_i h0
      rw [if_neg h0]; exact leT_get h.2 hv
theorem kept_rep {F F5 : Fr} {a a' : Act} (f5 : RepF e' h5.nx F5 a') (f : RepF e H.nx F a) (hx : Nv.ext H.nx e e') (hnt : F5.nt = F.nt) (hD : F5.D = []) (hDk : F.D = []) (hle : leT F.T F5.T = true) : RepF e H.nx F a' :=
  ⟨by rw [f5.size, hnt], f.fullT, fun i v hi hv => by
    obtain ⟨_, hl⟩ := f.tmp i v hi hv
    obtain ⟨h1, _⟩ := f5.tmp i v (by rw [hnt]; exact hi) (leT_get hle hv)
    rw [RV.tr_ext hx v hl] at h1
    exact ⟨h1, hl⟩, by rw [f5.defers, hD, hDk]; rfl, (fun d hd => by rw [hDk] at hd; cases hd), f.rlt⟩
/-! ### puts -/
noncomputable def putL (l : List (Nat × List Nat × RO)) : Hp → Hp := List.rec (motive := fun _ => Hp → Hp) (fun h => h) (fun x _ ih h => ih (h.put x.1 x.2.2)) l
theorem putL_cons (x : Nat × List Nat × RO) (l : List (Nat × List Nat × RO)) (h : Hp) : putL (x :: l) h = putL l (h.put x.1 x.2.2) := rfl
theorem putL_nx : ∀ (l : List (Nat × List Nat × RO)) (h : Hp), (putL l h).nx = h.nx
  | [], _ => rfl
  | x :: l, h => by rw [putL_cons, putL_nx l]; rfl
theorem putL_app : ∀ (l m : List (Nat × List Nat × RO)) (h : Hp), putL (l ++ m) h = putL m (putL l h)
  | [], _, _ => rfl
  | x :: l, m, h => by rw [List.cons_append, putL_cons, putL_cons, putL_app l]
theorem putL_other : ∀ {l : List (Nat × List Nat × RO)} {h : Hp} {i : Nat}, (∀ x ∈ l, x.1 < 2 ^ HD) → (∀ x ∈ l, x.1 ≠ i) → (putL l h).at? i = h.at? i
  | [], _, _, _, _ => rfl
  | x :: l, h, i, hs, hn => by
    rw [putL_cons, putL_other (fun y hy => hs y (List.mem_cons_of_mem _ hy)) (fun y hy => hn y (List.mem_cons_of_mem _ hy)), put_other _ (hs x (List.mem_cons_self ..)) (hn x (List.mem_cons_self ..))]
theorem putL_mem : ∀ {l : List (Nat × List Nat × RO)} {h : Hp} {x : Nat × List Nat × RO}, (∀ x ∈ l, x.1 < 2 ^ HD) → (l.map fun x => x.1).Nodup → x ∈ l → (putL l h).at? x.1 = some x.2.2
  | [], _, _, _, _, hx => by cases hx
  | y :: l, h, x, hs, hn, hx => by
    rw [List.map_cons, List.nodup_cons] at hn
    rw [putL_cons]
    rcases List.mem_cons.1 hx with rfl | hx
    · rw [putL_other (fun z hz => hs z (List.mem_cons_of_mem _ hz)) (fun z hz hh => hn.1 (List.mem_map.2 ⟨z, hz, hh⟩)), put_same _ (hs x (List.mem_cons_self ..))]
    · exact putL_mem (fun z hz => hs z (List.mem_cons_of_mem _ hz)) hn.2 hx
/-- the order is no matter -/
theorem putL_alike {l m : List (Nat × List Nat × RO)} {h : Hp} (hs : ∀ x ∈ l, x.1 < 2 ^ HD) (hl : (l.map fun x => x.1).Nodup) (hm : (m.map fun x => x.1).Nodup) (heq : ∀ x, x ∈ l ↔ x ∈ m) (i : Nat) : (putL m h).at? i = (putL l h).at? i := by
  have hsm : ∀ x ∈ m, x.1 < 2 ^ HD := fun x hx => hs x ((heq x).2 hx)
  by_cases hi : ∃ x ∈ l, x.1 = i
  · obtain ⟨x, hx, rfl⟩ := hi
    rw [putL_mem hs hl hx, putL_mem hsm hm ((heq x).1 hx)]
  · rw [putL_other hs (fun x hx hh => hi ⟨x, hx, hh⟩), putL_other hsm (fun x hx hh => hi ⟨x, (heq x).2 hx, hh⟩)]
end
end Go.Proofs.YtlfljoeafpimpaaGreatDoor
namespace Go.Proofs.YtlfljoeafpimpaaGreatDoor
open Go.RowKit Go.ChangeMaps

theorem nodupN_ok : ∀ {l : List Nat}, nodupN l = true → l.Nodup
  | [], _ => List.nodup_nil
  | n :: r, h => by
    replace h : (match hasN n r with
      | true => false
      | false => nodupN r) = true := h
    split at h
    · cases h
    · rename_i hn
      rw [hasN_eq] at hn
      exact List.nodup_cons.2 ⟨by simpa using hn, nodupN_ok h⟩
theorem stampE_ok {ck : Nat} {es : List (RV × RV × Nat)} (h : stampE ck es = true) : (∀ x ∈ es, x.2.2 < ck) ∧ (es.map fun x => x.2.2).Nodup := by
  unfold stampE at h
  split at h
  · rename_i h1 h2
    exact ⟨bornLt_mem h1, nodupN_ok h2⟩
  · cases h
/-- the shape of a loop over a map -/
structure Ml where
  i : Tmp
  t1 : Tmp
  t2 : Tmp
  t3 : Tmp
  ops2 : Array Oper
  rest : List Oper
  r3 : Code
  k : Nat
  j : Nat
def mlOf : Code → Option Ml
  | .seq (.region _ ops1 false) (.seq (.cond (.tmp c) .skip (.exit k)) (.block j (.seq (.region _ ops2 false) r3))) => match ops1.toList, ops2.toList with
    | [⟨some t1, .next (.tmp i) false, _, _, _, none⟩, ⟨some t2, .extract (.tmp t) 0, _, _, _, none⟩], ⟨some t3, .entry (.tmp i'), _, _, _, none⟩ :: rest => match Nat.beq t t1, Nat.beq c t2, Nat.beq i' i with
      | true, true, true => some ⟨i, t1, t2, t3, ops2, rest, r3, k, j⟩
      | _, _, _ => none
    | _, _ => none
  | _ => none
/-- what is meant by it -/
structure MlOk (c : Code) (m : Ml) : Prop where
  code : ∃ id1 id2 ops1 o1 o2 o3, c = .seq (.region id1 ops1 false) (.seq (.cond (.tmp m.t2) .skip (.exit m.k)) (.block m.j (.seq (.region id2 m.ops2 false) m.r3))) ∧ ops1.toList = [o1, o2] ∧ m.ops2.toList = o3 :: m.rest ∧
    (o1.dst = some m.t1 ∧ o1.op = .next (.tmp m.i) false ∧ o1.guard = none) ∧ (o2.dst = some m.t2 ∧ o2.op = .extract (.tmp m.t1) 0 ∧ o2.guard = none) ∧ (o3.dst = some m.t3 ∧ o3.op = .entry (.tmp m.i) ∧ o3.guard = none)
theorem mlOf_ok {c : Code} {m : Ml} (h : mlOf c = some m) : MlOk c m := by
  unfold mlOf at h
  split at h
  · split at h
    · rename_i h1 h2
      split at h
      · rename_i b1 b2 b3
        injection h with h; subst h
        obtain rfl := Nat.eq_of_beq_eq_true b1
        obtain rfl := Nat.eq_of_beq_eq_true b2
        obtain rfl := Nat.eq_of_beq_eq_true b3
        exact ⟨_, _, _, _, _, _, rfl, h1, h2, ⟨rfl, rfl, rfl⟩, ⟨rfl, rfl, rfl⟩, ⟨rfl, rfl, rfl⟩⟩
      · cases h
    · cases h
  · cases h
def nameV : RV → List Nat
  | .ptr b _ => [b]
  | .sl b _ _ _ => [b]
  | .slu b _ _ _ => [b]
  | .sle b _ _ _ => [b]
  | .mp b => [b]
  | _ => []
def namesS : List Seg → List Nat
  | [] => []
  | .one v :: r => nameV v ++ namesS r
  | _ :: r => namesS r
def sameO (h h5 : Hp) (b i : Nat) : Bool := match Nat.beq i b with
  | true => true
  | false => match h.at? i, h5.at? i with
    | none, _ => true
    | some x, some y => eqRO y x
    | _, _ => false
/-- the frame as a round's own part begins -/
noncomputable def mlF (m : Ml) (F : Fr) (x : RV × RV × Nat) : Fr :=
  ((F.put (some m.t1) (.tup [.lit (.bool true), x.1, x.2.1])).put (some m.t2) (.lit (.bool true))).put (some m.t3) (.tup [x.1, x.2.1])
noncomputable def mlRun (Ty : Tr TypeInfo) (call : CallE) (lf : Nat) (m : Ml) (F : Fr) (h : Hp) : Option (Xt × Fr × Hp) :=
  blockE m.j (thenE (evCode Ty call lf m.r3) (regE (evOps Ty call m.ops2.toList m.rest F h)))
noncomputable def mlEnd (F : Fr) (h : Hp) (b : Nat) (fp : List Nat) (r : Option (Xt × Fr × Hp)) : Option (Nat × List Nat × RO) := match r with
  | some (.normal, F5, h5) => match h5.at? b, F5.D with
    | some N, [] => match litRO N, Nat.beq F5.nt F.nt, leT F.T F5.T, fp.all (sameO h h5 b) with
      | true, true, true, true => some (b, fp, N)
      | _, _, _, _ => none
    | _, _ => none
  | _ => none
/-- a round, seen by itself -/
noncomputable def mlOne (Ty : Tr TypeInfo) (call : CallE) (lf : Nat) (m : Ml) (F : Fr) (h : Hp) (x : RV × RV × Nat) : Option (Nat × List Nat × RO) := match x.2.1 with
  | .ptr b 0 => match h.at? b with
    | some o => match o.segs with
      | some (ss, _) => mlEnd F h b (b :: namesS ss) (mlRun Ty call lf m (mlF m F x) (subH h (b :: namesS ss)))
      | none => none
    | none => none
  | _ => none
noncomputable def mlAll (g : RV × RV × Nat → Option (Nat × List Nat × RO)) (es : List (RV × RV × Nat)) : Option (List (Nat × List Nat × RO)) :=
  List.rec (motive := fun _ => Option (List (Nat × List Nat × RO))) (some []) (fun x _ ih => match g x, ih with
    | some p, some l => some (p :: l)
    | _, _ => none) es
def apart1 (n : Nat) (bs : List Nat) (b i : Nat) : Bool := match Nat.beq i n with
  | true => false
  | false => match Nat.beq i b with
    | true => true
    | false => match hasN i bs with
      | true => false
      | false => true
def apartL (n : Nat) (bs : List Nat) (l : List (Nat × List Nat × RO)) : Bool := l.all fun x => x.2.1.all (apart1 n bs x.1)
noncomputable def mlOut (m : Ml) (Fk : Fr) (h : Hp) (n : Nat) (l : List (Nat × List Nat × RO)) : Option (Xt × Fr × Hp) :=
  match nodupN (l.map fun x => x.1), apartL n (l.map fun x => x.1) l with
  | true, true => some (.exit m.k, (Fk.put (some m.t1) (.tup [.lit (.bool false)])).put (some m.t2) (.lit (.bool false)), (putL l h).drop n)
  | _, _ => none
/-- the temporaries of the loop are there -/
def mlTmps (m : Ml) (cs : List Nat) (nt : Nat) : Bool := match Nat.beq m.t1 m.i, Nat.beq m.t2 m.i with
  | false, false => (m.t1 :: m.t2 :: m.t3 :: cs).all fun c => Nat.ble (c + 1) nt
  | _, _ => false
noncomputable def evMl (Ty : Tr TypeInfo) (call : CallE) (lf : Nat) (m : Ml) (cs : List Nat) : CodeE := fun F h => match F.D, mlTmps m cs F.nt, opd (F.clear cs) (.tmp m.i) with
  | [], true, some (.ptr n 0) => match h.at? n with
    | some (.itr (some q) since [] c0) => match h.at? q with
      | some (.map es ck) => match stampE since es, Nat.ble since c0, Nat.ble since ck, mlAll (mlOne Ty call lf m (F.clear cs) h) es with
        | true, true, true, some l => mlOut m (F.clear cs) h n l
        | _, _, _, _ => none
      | _ => none
    | _ => none
  | _, _, _ => none
theorem mlAll_zip {g : RV × RV × Nat → Option (Nat × List Nat × RO)} : ∀ {es : List (RV × RV × Nat)} {l : List (Nat × List Nat × RO)}, mlAll g es = some l → ∃ Z : List ((RV × RV × Nat) × (Nat × List Nat × RO)), Z.map (fun z => z.1) = es ∧ Z.map (fun z => z.2) = l ∧ ∀ z ∈ Z, g z.1 = some z.2
  | [], l, h => by
    injection h with h; subst h
    exact ⟨[], rfl, rfl, fun z hz => by cases hz⟩
  | x :: es, l, h => by
    replace h : (match g x, mlAll g es with
      | some p, some l => some (p :: l)
      | _, _ => none) = some l := h
    split at h
    · rename_i p l' h1 h2
      injection h with h; subst h
      obtain ⟨Z, z1, z2, z3⟩ := mlAll_zip h2
      refine ⟨(x, p) :: Z, by rw [List.map_cons, z1], by rw [List.map_cons, z2], fun z hz => ?_⟩
      rcases List.mem_cons.1 hz with rfl | hz
      · exact h1
      · exact z3 z hz
    · cases h
section
variable {P : Program} {Ty : Tr TypeInfo} {B : Nat → Prop} {w0 w : World} {e : Nv} {h : Hp} {call : CallE} {lf : Nat}
/-- one operation without a guard -/
theorem one_step {rr : Option Nat} {ops : Array Oper} {o : Oper} {l : List Oper} {a : Act} {v : Value} {w' : World} {Q : Exit → Act → World → Prop} (hg : o.guard = none) (hr : (execOp a.eval o).run P w = .ok (.value v) w')
    (hk : wpListIn (rd rr) 0 P ops Q l (a.put o.dst v) w') : wpListIn (rd rr) 0 P ops Q (o :: l) a w := by
  unfold wpListIn
  rw [if_pos (by unfold Region.wanted; rw [hg])]
  exact run_wpIn hr (fun d hd => nomatch hd) hk
theorem mlOne_some {m : Ml} {F : Fr} {x : RV × RV × Nat} {p : Nat × List Nat × RO} (hp : mlOne Ty call lf m F h x = some p) :
    ∃ o ss t F5 h5, x.2.1 = .ptr p.1 0 ∧ h.at? p.1 = some o ∧ o.segs = some (ss, t) ∧ mlRun Ty call lf m (mlF m F x) (subH h p.2.1) = some (.normal, F5, h5) ∧ h5.at? p.1 = some p.2.2 ∧ F5.D = [] ∧ litRO p.2.2 = true ∧ F5.nt = F.nt ∧ leT F.T F5.T = true ∧ p.1 ∈ p.2.1 ∧
      ∀ i ∈ p.2.1, i ≠ p.1 → ∀ o, h.at? i = some o → h5.at? i = some o := by
  unfold mlOne at hp
  split at hp
  · rename_i b hb
    split at hp
    · rename_i o ho
      split at hp
      · rename_i ss t hss
        unfold mlEnd at hp
        split at hp
        · rename_i F5 h5 hrun
          split at hp
          · rename_i N hN hD
            split at hp
            · rename_i b1 b2 b3 b4
              injection hp with hp; subst hp
              refine ⟨o, ss, t, F5, h5, hb, ho, hss, hrun, hN, hD, b1, Nat.eq_of_beq_eq_true b2, b3, List.mem_cons_self .., fun i hi hn o' ho' => ?_⟩
              have hs := List.all_eq_true.1 b4 i hi
              unfold sameO at hs
              split at hs
              · rename_i hbeq
                exact (hn (Nat.eq_of_beq_eq_true hbeq)).elim
              · rw [ho'] at hs
                split at hs
                · rename_i hno; cases hno
                · rename_i x' y' hx' hy'
                  injection hx' with hx'; subst hx'
                  rw [hy', eqRO_eq hs]
                · cases hs
            · cases hp
          · cases hp
        · cases hp
      · cases hp
    · cases hp
  · cases hp
theorem map_inj {α β : Type} (f : α → β) : ∀ {l : List α}, (l.map f).Nodup → ∀ {x y : α}, x ∈ l → y ∈ l → f x = f y → x = y
  | [], _, _, _, hx, _, _ => by cases hx
  | z :: l, hn, x, y, hx, hy, he => by
    rw [List.map_cons, List.nodup_cons] at hn
    rcases List.mem_cons.1 hx with hx1 | hx1 <;> rcases List.mem_cons.1 hy with hy1 | hy1
    · rw [hx1, hy1]
    · subst hx1; exact (hn.1 (List.mem_map.2 ⟨y, hy1, he.symm⟩)).elim
    · subst hy1; exact (hn.1 (List.mem_map.2 ⟨x, hx1, he⟩)).elim
    · exact map_inj f hn.2 hx1 hy1 he
/-- the run of a round's own part -/
theorem mlRun_ok (S : Snd P Ty call) (hc : CallOk P call) (hmo : P.follows .mixedOrders = true) {m : Ml} {F F5 : Fr} {h5 : Hp} {id2 : Nat} {o3 : Oper} {a : Act} {v : Value} {Q : Exit → Act → World → Prop} (hops : m.ops2.toList = o3 :: m.rest) (hg : o3.guard = none)
    (r : RepH B w0 e h w) (hr : (execOp a.eval o3).run P w = .ok (.value v) w) (f : RepF e h.nx F (a.put o3.dst v)) (hv : mlRun Ty call lf m F h = some (.normal, F5, h5)) (hQ : ∀ e' w' a', Nv.ext h.nx e e' → RepH B w0 e' h5 w' → RepF e' h5.nx F5 a' → F5.ro = F.ro → Q .normal a' w') :
    (Code.block m.j (.seq (.region id2 m.ops2 false) m.r3)).wpIn (F.fe e) 0 P Q a w := by
  unfold mlRun at hv
  refine wpIn_block (wpIn_seq (wpIn_region_list ?_))
  rw [hops]
  refine one_step hg hr ?_
  cases hz : evOps Ty call m.ops2.toList m.rest F h with
  | none => rw [hz] at hv; cases hv
  | some q =>
    obtain ⟨F4, h4⟩ := q
    rw [hz] at hv
    replace hv : blockE m.j (evCode Ty call lf m.r3 F4 h4) = some (.normal, F5, h5) := hv
    have key := evOps_run S.op (ops := m.ops2.toList) (l := m.rest) (Q := Exit.then (Code.wpIn (F.fe e) 0 P m.r3 (Exit.inBlock m.j Q)) (Exit.inBlock m.j Q)) r f hz fun e4 w4 a4 hx4 r4 f4 hn4 hr4 => ?_
    · rw [Array.toArray_toList] at key
      exact key
    · show m.r3.wpIn (F.fe e) 0 P _ a4 w4
      rw [← fe_same hx4 f.rlt hr4]
      unfold blockE at hv
      split at hv
      · rename_i j F1 h1 hz3
        split at hv
        · rename_i hj
          injection hv with hv
          injection hv with _ hv; injection hv with e1 e2; subst e1 e2
          refine evCode_run S hc hmo m.r3 r4 f4 hz3 fun e5 w5 a5 hx5 r5 f5 hn5 hr5 => ?_
          show if j = m.j then _ else _
          rw [if_pos (Nat.eq_of_beq_eq_true hj)]
          exact hQ e5 w5 a5 (hx4.trans hx5 hn4) r5 f5 (hr5.trans hr4)
        · injection hv with hv
          injection hv with hv _; cases hv
      · rename_i hno
        refine evCode_run S hc hmo m.r3 r4 f4 hv fun e5 w5 a5 hx5 r5 f5 hn5 hr5 => ?_
        exact hQ e5 w5 a5 (hx4.trans hx5 hn4) r5 f5 (hr5.trans hr4)
end
end Go.Proofs.YtlfljoeafpimpaaGreatDoor
namespace Go.Proofs.YtlfljoeafpimpaaGreatDoor
open Go.RowKit Go.ChangeMaps

/-- the heap behind some rounds -/
noncomputable def mlH (h : Hp) (n q since : Nat) (S : List ((RV × RV × Nat) × (Nat × List Nat × RO))) (c0 : Nat) : Hp := (putL (S.map fun z => z.2) h).put n (.itr (some q) since (S.map fun z => z.1.2.2) c0)
section
variable {P : Program} {Ty : Tr TypeInfo} {B : Nat → Prop} {w0 : World} {e : Nv} {h : Hp} {call : CallE} {lf : Nat}
theorem fe_ro {F G : Fr} (h : F.ro = G.ro) : F.fe e = G.fe e := by unfold Fr.fe; rw [h]
theorem ml_opd {F : Fr} {nx t : Nat} {a : Act} {v : RV} (f : RepF e nx F a) (ht : t < F.nt) : opd (F.put (some t) v) (.tmp t) = some v := by
  obtain ⟨d, hf, hn⟩ := f.fullT
  show (match Nat.ble (t + 1) F.nt with
    | true => getR (putR F.T t (.leaf v)) t
    | false => none) = some v
  rw [Nat.ble_eq_true_of_le ht]
  exact getR_put_same d F.T t v hf
theorem ml_opdo {F : Fr} {nx t s : Nat} {a : Act} {v : RV} (f : RepF e nx F a) (ht : t < F.nt) (hs : s < F.nt) (hn : t ≠ s) : opd (F.put (some t) v) (.tmp s) = opd F (.tmp s) := by
  obtain ⟨d, hf, hnt⟩ := f.fullT
  show (match Nat.ble (s + 1) F.nt with
    | true => getR (putR F.T t (.leaf v)) s
    | false => none) = match Nat.ble (s + 1) F.nt with
    | true => getR F.T s
    | false => none
  rw [getR_put_other d F.T t s v hf (Nat.lt_of_lt_of_le ht hnt) (Nat.lt_of_lt_of_le hs hnt) hn]
theorem len_sub : ∀ {l m : List Nat}, l.Nodup → (∀ x ∈ l, x ∈ m) → l.length ≤ m.length
  | [], _, _, _ => Nat.zero_le _
  | x :: l, m, hn, hs => by
    obtain ⟨h1, h2⟩ := List.nodup_cons.1 hn
    have hx := hs x (List.mem_cons_self ..)
    have h3 := len_sub (m := m.erase x) h2 fun y hy => (List.mem_erase_of_ne (fun hh : y = x => h1 (hh ▸ hy))).2 (hs y (List.mem_cons_of_mem _ hy))
    rw [List.length_erase_of_mem hx] at h3
    have := List.length_pos_of_mem hx
    simp only [List.length_cons]
    omega
/-- what is known of a loop -/
structure MlIn (Ty : Tr TypeInfo) (call : CallE) (lf : Nat) (m : Ml) (Fk : Fr) (h : Hp) (n q since ck : Nat) (es : List (RV × RV × Nat)) (Z : List ((RV × RV × Nat) × (Nat × List Nat × RO))) : Prop where
  hn : ∃ c0 seen, h.at? n = some (.itr (some q) since seen c0)
  hq : h.at? q = some (.map es ck)
  born : ∀ x ∈ es, x.2.2 < since
  nodup : (es.map fun x => x.2.2).Nodup
  sck : since ≤ ck
  zes : Z.map (fun z => z.1) = es
  zone : ∀ z ∈ Z, mlOne Ty call lf m Fk h z.1 = some z.2
  znd : ((Z.map fun z => z.2).map fun x => x.1).Nodup
  zap : apartL n ((Z.map fun z => z.2).map fun x => x.1) (Z.map fun z => z.2) = true
  t1 : m.t1 < Fk.nt
  t2 : m.t2 < Fk.nt
  t3 : m.t3 < Fk.nt
  n1 : m.t1 ≠ m.i
  n2 : m.t2 ≠ m.i
  D : Fk.D = []
  it : opd Fk (.tmp m.i) = some (.ptr n 0)
section
variable {m : Ml} {Fk : Fr} {n q since ck : Nat} {es : List (RV × RV × Nat)} {Z : List ((RV × RV × Nat) × (Nat × List Nat × RO))} (I : MlIn Ty call lf m Fk h n q since ck es Z)
include I
theorem MlIn.small : ∀ z ∈ Z, z.2.1 < 2 ^ HD := fun z hz => by
  obtain ⟨o, _, _, _, _, _, ho, _⟩ := mlOne_some (I.zone z hz)
  exact at_small ho
theorem MlIn.nsmall : n < 2 ^ HD := by
  obtain ⟨c0, seen, h1⟩ := I.hn
  exact at_small h1
theorem MlIn.ne_n : ∀ z ∈ Z, z.2.1 ≠ n := fun z hz hh => by
  obtain ⟨o, ss, t, _, _, _, ho, hss, _⟩ := mlOne_some (I.zone z hz)
  obtain ⟨c0, seen, h1⟩ := I.hn
  rw [hh, h1] at ho
  injection ho with ho; subst ho
  cases hss
theorem MlIn.ne_q : ∀ z ∈ Z, z.2.1 ≠ q := fun z hz hh => by
  obtain ⟨o, ss, t, _, _, _, ho, hss, _⟩ := mlOne_some (I.zone z hz)
  rw [hh, I.hq] at ho
  injection ho with ho; subst ho
  cases hss
theorem MlIn.nq : n ≠ q := fun hh => by
  obtain ⟨c0, seen, h1⟩ := I.hn
  rw [hh, I.hq] at h1
  cases h1
theorem MlIn.bornZ : (Z.map fun z => z.1.2.2).Nodup := by
  have h1 := I.nodup
  rw [← I.zes, List.map_map] at h1
  exact h1
theorem MlIn.inj {z y : (RV × RV × Nat) × (Nat × List Nat × RO)} (hz : z ∈ Z) (hy : y ∈ Z) (hb : z.2.1 = y.2.1) : z = y := by
  have h1 := I.znd
  rw [List.map_map] at h1
  exact map_inj _ h1 hz hy hb
/-- what the heap holds behind some rounds -/
theorem MlIn.at_q {S : List ((RV × RV × Nat) × (Nat × List Nat × RO))} (hS : ∀ z ∈ S, z ∈ Z) (c0 : Nat) : (mlH h n q since S c0).at? q = some (.map es ck) := by
  unfold mlH
  rw [put_other _ I.nsmall I.nq, putL_other (fun x hx => ?_) (fun x hx => ?_)]
  · exact I.hq
  · obtain ⟨z, hz, rfl⟩ := List.mem_map.1 hx
    exact I.small z (hS z hz)
  · obtain ⟨z, hz, rfl⟩ := List.mem_map.1 hx
    exact I.ne_q z (hS z hz)
theorem MlIn.at_n (S : List ((RV × RV × Nat) × (Nat × List Nat × RO))) (c0 : Nat) : (mlH h n q since S c0).at? n = some (.itr (some q) since (S.map fun z => z.1.2.2) c0) := put_same _ I.nsmall
/-- what a round sees is as it was -/
theorem MlIn.at_fp {S : List ((RV × RV × Nat) × (Nat × List Nat × RO))} (hS : ∀ z ∈ S, z ∈ Z) {z : (RV × RV × Nat) × (Nat × List Nat × RO)} (hz : z ∈ Z) (hzS : z ∉ S) (c0 : Nat) {H2 : Hp}
    (hH2 : ∀ i, i ≠ n → H2.at? i = (mlH h n q since S c0).at? i) : ∀ i ∈ z.2.2.1, H2.at? i = h.at? i := fun i hi => by
  have hap := List.all_eq_true.1 I.zap z.2 (List.mem_map.2 ⟨z, hz, rfl⟩)
  have hap := List.all_eq_true.1 hap i hi
  unfold apart1 at hap
  split at hap
  · cases hap
  · rename_i hin
    have hin : i ≠ n := Nat.ne_of_beq_eq_false hin
    rw [hH2 i hin]
    unfold mlH
    rw [put_other _ I.nsmall (Ne.symm hin)]
    refine putL_other (fun x hx => ?_) (fun x hx hh => ?_)
    · obtain ⟨y, hy, rfl⟩ := List.mem_map.1 hx
      exact I.small y (hS y hy)
    · obtain ⟨y, hy, rfl⟩ := List.mem_map.1 hx
      split at hap
      · rename_i hib
        have hib := Nat.eq_of_beq_eq_true hib
        exact hzS (I.inj (hS y hy) hz (hh.trans hib) ▸ hy)
      · split at hap
        · cases hap
        · rename_i hno
          rw [hasN_eq] at hno
          have : i ∈ ((Z.map fun z => z.2).map fun x => x.1) := by
            rw [← hh]
            exact List.mem_map.2 ⟨y.2, List.mem_map.2 ⟨y, hS y hy, rfl⟩, rfl⟩
          rw [List.contains_iff_mem.2 this] at hno
          cases hno
/-- all rounds -/
theorem ml_rounds (Sn : Snd P Ty call) (hc : CallOk P call) (hmo : P.follows .mixedOrders = true) {c : Code} (hm : MlOk c m) {Q : Exit → Act → World → Prop}
    (hQ : ∀ w' a', RepH B w0 e ((putL (Z.map fun z => z.2) h).drop n) w' → RepF e h.nx ((Fk.put (some m.t1) (.tup [.lit (.bool false)])).put (some m.t2) (.lit (.bool false))) a' → Q (.exit m.k) a' w') :
    ∀ (k : Nat) (S : List ((RV × RV × Nat) × (Nat × List Nat × RO))) {a : Act} {w : World} {c0 : Nat}, (∀ z ∈ S, z ∈ Z) → (S.map fun z => z.1.2.2).Nodup → Z.length < S.length + k → since ≤ c0 → RepH B w0 e (mlH h n q since S c0) w → RepF e h.nx Fk a → Code.roundsIn (Fk.fe e) 0 P c Q k a w
  | 0, S, a, w, c0, hS, hnd, hk, _, _, _ => by
    exfalso
    have h1 : (S.map fun z => z.1.2.2).length ≤ (Z.map fun z => z.1.2.2).length := len_sub hnd fun x hx => by
      obtain ⟨z, hz, rfl⟩ := List.mem_map.1 hx
      exact List.mem_map.2 ⟨z, hS z hz, rfl⟩
    simp at h1
    omega
  | k + 1, S, a, w, c0, hS, hnd, hk, hsc, r, f => by
    obtain ⟨id1, id2, ops1, o1, o2, o3, rfl, hops1, hops2, ⟨d1, p1, g1⟩, ⟨d2, p2, g2⟩, ⟨d3, p3, g3⟩⟩ := hm.code
    have hit : w.heap[e.at_ n]? = some (.mapIter (some (e.at_ q)) since (S.map fun z => z.1.2.2).toArray c0) := (r.obj n _ (I.at_n S c0)).2.2.1
    have hblk : w.heap[e.at_ q]? = some (.map (es.map (trE e)).toArray ck) := (r.obj q _ (I.at_q hS c0)).2.2.1
    have hold : ∀ z ∈ ((es.map (trE e)).toArray).toList, z.born < since := fun z hz => by
      simp only at hz
      obtain ⟨u, hu, rfl⟩ := List.mem_map.1 hz
      exact I.born u hu
    have hit0 : a.eval (.tmp m.i) = .pointer (some ⟨e.at_ n, 0, none⟩) := (opd_run f I.it).1
    have hHnx : (mlH h n q since S c0).nx = h.nx := putL_nx _ _
    show (Code.seq _ _).wpIn (Fk.fe e) 0 P _ a w
    refine wpIn_seq (wpIn_region_list ?_)
    rw [hops1]
    rcases run_next_at (P := P) w o1.type (e.at_ n) (e.at_ q) since c0 (S.map fun z => z.1.2.2).toArray _ ck hit hblk hold hsc with ⟨hleft, hr⟩ | ⟨z', hz', w1, hw1, hr⟩
    · -- nothing is left
      have hcov : ∀ z ∈ Z, z ∈ S := fun z hz => by
        rw [left_of] at hleft
        simp only [List.size_toArray, List.length_map] at hleft
        have hle := List.eq_nil_of_length_eq_zero hleft
        rw [leftE_eq, List.filter_eq_nil_iff] at hle
        have h1 := hle z.1 (by rw [← I.zes]; exact List.mem_map.2 ⟨z, hz, rfl⟩)
        have h2 : (S.map fun z => z.1.2.2).contains z.1.2.2 = true := by
          cases hcc : (S.map fun z => z.1.2.2).contains z.1.2.2 with
          | true => rfl
          | false => exact absurd (by rw [hcc]; rfl) h1
        obtain ⟨y, hy, hyz⟩ := List.mem_map.1 (List.contains_iff_mem.1 h2)
        rw [← map_inj _ I.bornZ (hS y hy) hz hyz]
        exact hy
      refine one_step g1 (v := .tuple #[.bool false]) (w' := w) (by unfold execOp; rw [p1]; refine run_value ?_; rw [hit0]; exact hr) ?_
      have f1 := f.put (d := some m.t1) (v := .tup [.lit (.bool false)]) (fun t ht => by injection ht with ht; subst ht; exact I.t1) ⟨trivial, trivial⟩
      have e1 : opExt (Fk.put (some m.t1) (.tup [.lit (.bool false)])) h (.tmp m.t1) 0 = some (.lit (.bool false), h) := by
        unfold opExt
        rw [ml_opd f I.t1]; rfl
      rw [d1]
      have q1 := (opExt_run (P := P) (w := w) f1 e1 p2).1.1
      refine one_step g2 q1 ?_
      rw [d2]
      have f2 := f1.put (d := some m.t2) (v := .lit (.bool false)) (fun t ht => by injection ht with ht; subst ht; exact I.t2) trivial
      show (Code.seq _ _).wpIn (Fk.fe e) 0 P _ _ w
      refine wpIn_seq (wpIn_cond_false ?_ (wpIn_exit ?_))
      · exact (opd_run f2 (ml_opd f1 I.t2)).1
      · refine hQ w _ ?_ f2
        refine (r.drop I.nsmall).same (by show (putL _ h).nx = (putL _ h).nx; rw [putL_nx, putL_nx]) fun i => ?_
        by_cases hin : n = i
        · subst hin
          rw [show ∀ H : Hp, (H.drop n).at? n = none from fun H => Tr.get_set_nil HD H.ob n I.nsmall, show ∀ H : Hp, (H.drop n).at? n = none from fun H => Tr.get_set_nil HD H.ob n I.nsmall]
        · rw [show ∀ H : Hp, (H.drop n).at? i = H.at? i from fun H => Tr.get_set_other HD H.ob n i _ I.nsmall hin, show ∀ H : Hp, (H.drop n).at? i = H.at? i from fun H => Tr.get_set_other HD H.ob n i _ I.nsmall hin]
          unfold mlH
          rw [put_other _ I.nsmall hin]
          refine putL_alike (fun x hx => ?_) ?_ I.znd (fun x => ⟨fun hx => ?_, fun hx => ?_⟩) i
          · obtain ⟨z, hz, rfl⟩ := List.mem_map.1 hx
            exact I.small z (hS z hz)
          · rw [List.map_map]
            refine (List.pairwise_map.2 ((List.pairwise_map.1 hnd).imp_of_mem fun {x y} hx hy hne hh => hne ?_))
            rw [I.inj (hS x hx) (hS y hy) hh]
          · obtain ⟨z, hz, rfl⟩ := List.mem_map.1 hx
            exact List.mem_map.2 ⟨z, hS z hz, rfl⟩
          · obtain ⟨z, hz, rfl⟩ := List.mem_map.1 hx
            exact List.mem_map.2 ⟨z, hcov z hz, rfl⟩
    · -- one is left
      rw [left_of] at hz'
      simp only [List.mem_map] at hz'
      obtain ⟨x, hx, rfl⟩ := hz'
      rw [leftE_eq, List.mem_filter] at hx
      obtain ⟨hxes, hxs⟩ := hx
      have hxz : x ∈ Z.map fun z => z.1 := by rw [I.zes]; exact hxes
      obtain ⟨z, hz, rfl⟩ := List.mem_map.1 hxz
      have hzS : z ∉ S := fun hh => by
        simp only [Bool.not_eq_true', List.contains_eq_mem, decide_eq_false_iff_not] at hxs
        exact hxs (List.mem_map.2 ⟨z, hh, rfl⟩)
      obtain ⟨ob, ss, t, F5, h5, hzv, hob, hss, hrun, hN, hD5, hlit, hnt5, hle5, hbfp, hoth⟩ := mlOne_some (I.zone z hz)
      have r1 : RepH B w0 e (mlH h n q since S c0) w1 := by
        rcases hw1 with rfl | rfl
        · exact r
        · exact r.drew
      have r2 := r1.setObj (x := .mapIter (some (e.at_ q)) since ((S.map fun z => z.1.2.2) ++ [z.1.2.2]).toArray ck) (o' := .itr (some q) since ((S.map fun z => z.1.2.2) ++ [z.1.2.2]) ck) (I.at_n S c0) (by simp [RO.ok]) (r.obj n _ (I.at_n S c0)).2.2.2
      have hzl := map_lt r (I.at_q hS c0) z.1 hxes
      rw [hHnx] at hzl
      refine one_step g1 (v := .tuple #[.bool true, RV.tr e z.1.1, RV.tr e z.1.2.1]) (w' := setBlock w1 (e.at_ n) (.mapIter (some (e.at_ q)) since ((S.map fun z => z.1.2.2).toArray.push (trE e z.1).born) ck)) (by unfold execOp; rw [p1]; refine run_value ?_; rw [hit0]; exact hr) ?_
      have hset : setBlock w1 (e.at_ n) (.mapIter (some (e.at_ q)) since ((S.map fun z => z.1.2.2).toArray.push (trE e z.1).born) ck) = { w1 with heap := w1.heap.setIfInBounds (e.at_ n) (.mapIter (some (e.at_ q)) since ((S.map fun z => z.1.2.2) ++ [z.1.2.2]).toArray ck) } := by
        simp [setBlock, trE]
      rw [hset]
      generalize hw2 : ({ w1 with heap := w1.heap.setIfInBounds (e.at_ n) (.mapIter (some (e.at_ q)) since ((S.map fun z => z.1.2.2) ++ [z.1.2.2]).toArray ck) } : World) = w2 at r2
      have f1 := f.put (d := some m.t1) (v := .tup [.lit (.bool true), z.1.1, z.1.2.1]) (fun t ht => by injection ht with ht; subst ht; exact I.t1) ⟨trivial, hzl.1, hzl.2, trivial⟩
      have e1 : opExt (Fk.put (some m.t1) (.tup [.lit (.bool true), z.1.1, z.1.2.1])) h (.tmp m.t1) 0 = some (.lit (.bool true), h) := by
        unfold opExt
        rw [ml_opd f I.t1]; rfl
      rw [d1]
      have q1 := (opExt_run (P := P) (w := w2) f1 e1 p2).1.1
      refine one_step g2 q1 ?_
      rw [d2]
      have f2 := f1.put (d := some m.t2) (v := .lit (.bool true)) (fun t ht => by injection ht with ht; subst ht; exact I.t2) trivial
      show (Code.seq _ _).wpIn (Fk.fe e) 0 P _ _ w2
      refine wpIn_seq (wpIn_cond_true ?_ (wpIn_skip ?_))
      · exact (opd_run f2 (ml_opd f1 I.t2)).1
      show (Code.block _ _).wpIn (Fk.fe e) 0 P _ _ w2
      have hatn2 : ((mlH h n q since S c0).put n (.itr (some q) since ((S.map fun z => z.1.2.2) ++ [z.1.2.2]) ck)).at? n = some (.itr (some q) since ((S.map fun z => z.1.2.2) ++ [z.1.2.2]) ck) := put_same _ I.nsmall
      have hH2 : ∀ i, i ≠ n → ((mlH h n q since S c0).put n (.itr (some q) since ((S.map fun z => z.1.2.2) ++ [z.1.2.2]) ck)).at? i = (mlH h n q since S c0).at? i := fun i hi => put_other _ I.nsmall (Ne.symm hi)
      have hatq2 : ((mlH h n q since S c0).put n (.itr (some q) since ((S.map fun z => z.1.2.2) ++ [z.1.2.2]) ck)).at? q = some (.map es ck) := (hH2 q (Ne.symm I.nq)).trans (I.at_q hS c0)
      have hit2 : w2.heap[e.at_ n]? = some (.mapIter (some (e.at_ q)) since ((S.map fun z => z.1.2.2).toArray.push (trE e z.1).born) ck) := by
        have := (r2.obj n _ hatn2).2.2.1
        simpa [RO.ok, trE] using this
      have hblk2 : w2.heap[e.at_ q]? = some (.map (es.map (trE e)).toArray ck) := (r2.obj q _ hatq2).2.2.1
      have hent := run_entry_at (P := P) w2 (e.at_ n) (e.at_ q) since (S.map fun z => z.1.2.2).toArray (es.map (trE e)).toArray ck (trE e z.1) hit2 hblk2 (by simpa using ⟨_, _, _, hxes, rfl⟩) (by
        have h1 := I.nodup
        simp only [List.map_map]
        exact h1)
      have hfp := I.at_fp hS hz hzS c0 hH2
      have hnx2 : h.nx = ((mlH h n q since S c0).put n (.itr (some q) since ((S.map fun z => z.1.2.2) ++ [z.1.2.2]) ck)).nx := hHnx.symm
      have rs := sub_rep r2 hnx2 hfp
      have hit3 : (((a.put (some m.t1) (RV.tr e (.tup [.lit (.bool true), z.1.1, z.1.2.1]))).put (some m.t2) (RV.tr e (.lit (.bool true)))).eval (.tmp m.i)) = .pointer (some ⟨e.at_ n, 0, none⟩) := by
        have hi := I.it
        have hilt : m.i < Fk.nt := by
          simp only [opd] at hi
          split at hi
          · rename_i hb; exact Nat.le_of_ble_eq_true hb
          · cases hi
        have h4 := ml_opdo (v := .tup [.lit (.bool true), z.1.1, z.1.2.1]) f I.t1 hilt I.n1
        have h3 := ml_opdo (v := .lit (.bool true)) f1 I.t2 hilt I.n2
        rw [h4, hi] at h3
        exact (opd_run f2 h3).1
      have f3 := f2.put (d := some m.t3) (v := .tup [z.1.1, z.1.2.1]) (fun t ht => by injection ht with ht; subst ht; exact I.t3) ⟨hzl.1, hzl.2, trivial⟩
      have hfe : Fk.fe e = (mlF m Fk z.1).fe e := fe_ro (by unfold mlF; rw [Fr.put_ro, Fr.put_ro, Fr.put_ro])
      rw [hfe]
      refine mlRun_ok (h := subH h z.2.2.1) Sn hc hmo hops2 g3 rs (v := RV.tr e (.tup [z.1.1, z.1.2.1])) (by unfold execOp; rw [p3]; refine run_value ?_; exact (congrArg (fun x => (Instr.entry x).run P w2) hit3).trans hent) (by rw [d3]; exact f3) hrun fun e5 w5 a5 hx5 r5 f5 hro5 => ?_
      show Code.roundsIn _ 0 P _ Q k a5 w5
      rw [← hfe]
      refine ml_rounds Sn hc hmo hm hQ k (S ++ [z]) (c0 := ck) (fun y hy => ?_) ?_ (by simp; omega) I.sck ?_ ?_
      · rcases List.mem_append.1 hy with hy | hy
        · exact hS y hy
        · rw [List.mem_singleton.1 hy]; exact hz
      · rw [List.map_append]
        refine List.nodup_append.2 ⟨hnd, by simp, fun u hu v hv => ?_⟩
        simp only [List.map_cons, List.map_nil, List.mem_singleton] at hv
        subst hv
        simp only [Bool.not_eq_true', List.contains_eq_mem, decide_eq_false_iff_not] at hxs
        exact fun hh => hxs (hh ▸ hu)
      · have rb := back_rep r2 hnx2 hfp r5 hx5 ((hfp _ hbfp).trans hob) hN hlit hoth
        refine rb.same (by show (putL _ h).nx = (putL _ h).nx; rw [putL_nx, putL_nx]) fun i => ?_
        have hbn := I.ne_n z hz
        unfold mlH
        rw [List.map_append, List.map_append, putL_app]
        simp only [List.map_cons, List.map_nil]
        by_cases hin : n = i
        · subst hin
          rw [put_same _ I.nsmall, put_other _ (I.small z hz) hbn, put_same _ I.nsmall]
        · rw [put_other _ I.nsmall hin]
          show ((putL _ h).put z.2.1 z.2.2.2).at? i = _
          by_cases hib : z.2.1 = i
          · subst hib
            rw [put_same _ (I.small z hz), put_same _ (I.small z hz)]
          · rw [put_other _ (I.small z hz) hib, put_other _ (I.small z hz) hib, put_other _ I.nsmall hin, put_other _ I.nsmall hin]
      · have fk : RepF e ((mlH h n q since S c0).put n (.itr (some q) since ((S.map fun z => z.1.2.2) ++ [z.1.2.2]) ck)).nx Fk a := by rw [← hnx2]; exact f
        have := kept_rep (H := h) f5 f hx5 hnt5 hD5 I.D hle5
        exact this
end
end
end Go.Proofs.YtlfljoeafpimpaaGreatDoor
namespace Go.Proofs.YtlfljoeafpimpaaGreatDoor
open Go.RowKit

noncomputable def loopX (Ty : Tr TypeInfo) (call : CallE) (lf : Nat) (pt : PlT) (cs : List Nat) (x : Code) : CodeE := fun F h => match mlOf x with
  | some m => match evMl Ty call lf m cs F h with
    | some r => some r
    | none => evCodeP Ty call lf pt (.loop x) F h
  | none => evCodeP Ty call lf pt (.loop x) F h
noncomputable def evCodeX (Ty : Tr TypeInfo) (call : CallE) (lf : Nat) (pt : PlT) (cs : List Nat) (c : Code) : CodeE :=
  Code.rec (motive := fun _ => CodeE) (evCodeP Ty call lf pt .skip) (fun id ops d => evCodeP Ty call lf pt (.region id ops d))
    (fun _ _ a b F h => thenE b (a F h))
    (fun c _ _ a b F h => condE F h (opd F c) a b)
    (fun i _ b F h => blockE i (b F h))
    (fun x _ => loopX Ty call lf pt cs x)
    (fun g ps asg body _ _ => evCodeP Ty call lf pt (.rangeFunc g ps asg body))
    (fun i => evCodeP Ty call lf pt (.exit i))
    (fun _ b F h => b F h)
    (fun l => evCodeP Ty call lf pt (.label l))
    (fun l => evCodeP Ty call lf pt (.goto l))
    (evCodeP Ty call lf pt .ret)
    (fun s => evCodeP Ty call lf pt (.refuse s)) c
/-- a function whose code has loops over maps -/
noncomputable def runX (Ty : Tr TypeInfo) (dno : FuncId → Bool) (call : CallE) (lf : Nat) (pt : PlT) (cs : List Nat) (fn : Func) : OrcE := fun xs h => match fn.body with
  | some c => match Nat.ble xs.length fn.ntmps, chkC Ty pt c with
    | true, true => finE Ty dno call.df fn.results.toList (evCodeX Ty call lf pt cs c ⟨fn.ntmps, argsT xs 0 (fullR (.lit undef) (Nat.log2 fn.ntmps + 1)), [], none⟩ h)
    | _, _ => none
  | none => none
section
variable {P : Program} {Ty : Tr TypeInfo} {B : Nat → Prop} {w0 : World} {call : CallE} {lf : Nat} {dno : FuncId → Bool}
theorem evMl_run (S : Snd P Ty call) (hc : CallOk P call) (hmo : P.follows .mixedOrders = true) {c : Code} {m : Ml} (hm : mlOf c = some m) (cs : List Nat) : CodeOk P B w0 (.loop c) (evMl Ty call lf m cs) := by
  intro F F' e h h' a w x Q r f hv hQ
  unfold evMl at hv
  split at hv
  · rename_i n hD ht hit
    split at hv
    · rename_i q since c0 hn
      split at hv
      · rename_i es ck hq
        split at hv
        · rename_i l b1 b2 b3 hl
          unfold mlOut at hv
          split at hv
          · rename_i b4 b5
            injection hv with hv
            injection hv with e1 hv; injection hv with e2 e3
            obtain ⟨Z, z1, z2, z3⟩ := mlAll_zip hl
            subst z2
            obtain ⟨k1, k2⟩ := stampE_ok b1
            unfold mlTmps at ht
            split at ht
            · rename_i n1 n2
              simp only [List.all_cons, Bool.and_eq_true] at ht
              obtain ⟨t1, t2, t3, tc⟩ := ht
              have fk := f.clear tc
              have I : MlIn Ty call lf m (F.clear cs) h n q since ck es Z :=
                ⟨⟨c0, [], hn⟩, hq, k1, k2, Nat.le_of_ble_eq_true b3, z1, z3, nodupN_ok b4, b5, Nat.le_of_ble_eq_true t1, Nat.le_of_ble_eq_true t2, Nat.le_of_ble_eq_true t3, Nat.ne_of_beq_eq_false n1, Nat.ne_of_beq_eq_false n2, hD, hit⟩
              refine wpIn_loop_rounds (Z.length + 1) ?_
              have hfe : F.fe e = (F.clear cs).fe e := fe_ro rfl
              rw [hfe]
              refine ml_rounds (B := B) (w0 := w0) I S hc hmo (mlOf_ok hm) (Q := Q) (fun w' a' r' f' => ?_) (Z.length + 1) [] (c0 := c0) (fun z hz => by cases hz) List.nodup_nil (by simp) (Nat.le_of_ble_eq_true b2) ?_ fk
              · subst e1 e2 e3
                have hnx : ((putL (Z.map fun z => z.2) h).drop n).nx = h.nx := putL_nx _ _
                exact hQ e w' a' (Nv.ext.refl _ _) r' (by rw [hnx]; exact f') (Nat.le_of_eq hnx.symm) (by rw [Fr.put_ro, Fr.put_ro]; rfl)
              · refine r.same rfl fun i => ?_
                by_cases hin : n = i
                · subst hin
                  unfold mlH
                  rw [put_same _ (at_small hn)]; exact hn.symm
                · unfold mlH
                  rw [put_other _ (at_small hn) hin]; rfl
            · cases ht
          · cases hv
        · cases hv
      · cases hv
    · cases hv
  · cases hv
theorem evCodeP_run (S : Snd P Ty call) (hc : CallOk P call) (hmo : P.follows .mixedOrders = true) {pt : PlT} {c : Code} (hk : chkC Ty pt c = true) : CodeOk P B w0 c (evCodeP Ty call lf pt c) := by
  rw [evCodeP_eq hk]
  exact evCode_run S hc hmo c
theorem evCodeX_run (S : Snd P Ty call) (hc : CallOk P call) (hmo : P.follows .mixedOrders = true) {pt : PlT} (cs : List Nat) : ∀ {c : Code}, chkC Ty pt c = true → CodeOk P B w0 c (evCodeX Ty call lf pt cs c)
  | .skip, hk => evCodeP_run (lf := lf) S hc hmo hk
  | .region _ _ _, hk => evCodeP_run (lf := lf) S hc hmo hk
  | .seq x y, hk => by
    have h1 : (chkC Ty pt x && chkC Ty pt y) = true := hk
    rw [Bool.and_eq_true] at h1
    exact fun _ _ _ _ _ _ _ _ _ r f hv hQ => wpIn_seq (then_ok (evCodeX_run S hc hmo cs h1.1) r f hv hQ fun r1 f1 hv1 hQ1 hfe => by rw [← hfe]; exact evCodeX_run S hc hmo cs h1.2 r1 f1 hv1 hQ1)
  | .cond c x y, hk => by
    have h1 : (chkC Ty pt x && chkC Ty pt y) = true := hk
    rw [Bool.and_eq_true] at h1
    intro F F' e h h' a w z Q r f hv hQ
    replace hv : condE F h (opd F c) (evCodeX Ty call lf pt cs x) (evCodeX Ty call lf pt cs y) = some (z, F', h') := hv
    unfold condE at hv
    split at hv
    · rename_i hc'
      exact wpIn_cond_true (opd_run f hc').1 (evCodeX_run S hc hmo cs h1.1 r f hv hQ)
    · rename_i hc'
      exact wpIn_cond_false (opd_run f hc').1 (evCodeX_run S hc hmo cs h1.2 r f hv hQ)
    · cases hv
  | .block i c, hk => by
    have h1 : chkC Ty pt c = true := hk
    intro F F' e h h' a w z Q r f hv hQ
    replace hv : blockE i (evCodeX Ty call lf pt cs c F h) = some (z, F', h') := hv
    refine wpIn_block ?_
    unfold blockE at hv
    split at hv
    · rename_i j F1 h1' hz
      split at hv
      · rename_i hj
        replace hv := Option.some.inj hv
        injection hv with h1 h2; injection h2 with h2 h3
        subst h1 h2 h3
        refine evCodeX_run S hc hmo cs (by assumption) r f hz fun e1 w1 a1 hx r1 f1 hn hr => ?_
        show if j = i then _ else _
        rw [if_pos (Nat.eq_of_beq_eq_true hj)]
        exact hQ e1 w1 a1 hx r1 f1 hn hr
      · rename_i hj
        replace hv := Option.some.inj hv
        injection hv with h1 h2; injection h2 with h2 h3
        subst h1 h2 h3
        refine evCodeX_run S hc hmo cs (by assumption) r f hz fun e1 w1 a1 hx r1 f1 hn hr => ?_
        show if j = i then _ else _
        rw [if_neg (Nat.ne_of_beq_eq_false hj)]
        exact hQ e1 w1 a1 hx r1 f1 hn hr
    · rename_i hz
      refine evCodeX_run S hc hmo cs h1 r f hv fun e1 w1 a1 hx r1 f1 hn hr => ?_
      have := hQ e1 w1 a1 hx r1 f1 hn hr
      cases z with
      | normal => exact this
      | exit j => exact (hz _ _ _ hv).elim
      | ret => exact this
  | .loop c, hk => by
    intro F F' e h h' a w z Q r f hv hQ
    replace hv : loopX Ty call lf pt cs c F h = some (z, F', h') := hv
    unfold loopX at hv
    split at hv
    · rename_i m hm
      split at hv
      · rename_i q hq
        injection hv with hv; subst hv
        exact evMl_run S hc hmo hm cs r f hq hQ
      · exact evCodeP_run S hc hmo hk r f hv hQ
    · exact evCodeP_run S hc hmo hk r f hv hQ
  | .rangeFunc _ _ _ _, hk => evCodeP_run (lf := lf) S hc hmo hk
  | .exit _, hk => evCodeP_run (lf := lf) S hc hmo hk
  | .scope c, hk => by
    have h1 : chkC Ty pt c = true := hk
    intro F F' e h h' a w z Q r f hv hQ
    refine wpIn_scope_straight (evCodeX_run S hc hmo cs h1 r f hv fun e1 w1 a1 hx r1 f1 hn hr => ?_)
    have := hQ e1 w1 a1 hx r1 f1 hn hr
    cases z <;> exact this
  | .label _, hk => evCodeP_run (lf := lf) S hc hmo hk
  | .goto _, hk => evCodeP_run (lf := lf) S hc hmo hk
  | .ret, hk => evCodeP_run (lf := lf) S hc hmo hk
  | .refuse _, hk => evCodeP_run (lf := lf) S hc hmo hk
theorem runX_run (K : TyOk P Ty) (S : Snd P Ty call) (hc : CallOk P call) (hm : P.follows .mixedOrders = true) (hD : ∀ g, dno g = true → NoopD P g) {pt : PlT} (cs : List Nat) {f : FuncId} {fn : Func} (hf : P.funcs[f]? = some fn) {xs : List RV} {e : Nv} {h h' : Hp} {v : RV} {w : World}
    (r : RepH B w0 e h w) (hl : ltL h.nx xs) (hv : runX Ty dno call lf pt cs fn xs h = some (v, h')) : Calls P f (trL e xs).toArray w (Gives B w0 e h v h') := by
  unfold runX at hv
  split at hv
  · rename_i c hb
    split at hv
    · rename_i hn hchk
      unfold finE at hv
      split at hv
      · cases hv
      · rename_i x F1 h1 hz hne
        split at hv
        · rename_i h2 hdef
          have key : ∀ (vs : List RV) (u : RV), resE Ty F1 h2 fn.results.toList = some vs → some (u, h2) = some (v, h') →
              (∀ e1, RV.tr e1 u = oneV (trL e1 vs)) → (∀ n, ltL n vs → RV.lt n u) → Calls P f (trL e xs).toArray w (Gives B w0 e h v h') := by
            intro vs u hres hu htr hlt
            injection hu with hu
            injection hu with e1 e2; subst e1 e2
            refine calls_rd (rr := none) (n := 0) (callsIn_of_wp_marks hf hb trivial (evCodeX_run S hc hm cs hchk r (start_frame hl (Nat.le_of_ble_eq_true hn)) hne fun e1 w1 a1 hx r1 f1 hn1 _ => ?_))
            have hleave : LeavesInM (rd none) 0 P fn a1.tmps (Gives B w0 e h u h2) a1.defers .returning w1 := by
              rw [f1.defers]
              refine evDef_run hc hD F1.D r1 f1.dlt hdef fun e2 w2 hx2 r2 hn2 => ?_
              obtain ⟨hr1, hr2⟩ := resE_run (P := P) K r2 (f1.ext hx2 hn2) hres
              have hrr := results_run hr1
              rw [← htr e2] at hrr
              exact ⟨_, hrr, e2, hx.trans hx2 hn1, r2, Nat.le_trans hn1 hn2, hlt _ hr2, rfl⟩
            cases x with
            | exit i => exact (hz i rfl).elim
            | normal => exact hleave
            | ret => exact hleave
          split at hv
          · rename_i u hres
            exact key [u] u hres hv (fun _ => rfl) fun _ h => h.1
          · rename_i vs hno hres
            refine key vs (.tup vs) hres hv (fun e1 => ?_) fun _ h => h
            match vs, hno with
            | [], _ => rfl
            | [z], hno => exact (hno z rfl).elim
            | _ :: _ :: _, _ => rfl
          · cases hv
        · cases hv
      · cases hv
    · cases hv
  · cases hv
end
end Go.Proofs.YtlfljoeafpimpaaGreatDoor
