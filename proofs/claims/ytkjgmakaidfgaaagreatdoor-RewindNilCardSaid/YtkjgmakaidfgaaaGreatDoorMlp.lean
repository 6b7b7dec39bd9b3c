/- The evaluator: loops over maps of any number of entries, each round of which turns a block of its own: the loop. -/
import Derived.Test.YtkjgmakaidfgaaaGreatDoorMlo
import Derived.Test.YtkjgmakaidfgaaaGreatDoorOrd
namespace Go.Proofs.YtkjgmakaidfgaaaGreatDoor
open Go.RowKit Go.ChangeMaps

theorem nodupN_ok : ∀ {l : List Nat}, nodupN l = true → l.Nodup
  | [], _ => List.nodup_nil
  | n :: r, h => by
    replace h : (match hasN n r with
      | true => false
      | false => nodupN r) = true := h
    split at h
    · cases h
    · rename_i hn
      rw [hasN_eq] at hn
      exact List.nodup_cons.2 ⟨by simpa using hn, nodupN_ok h⟩
theorem stampE_ok {ck : Nat} {es : List (RV × RV × Nat)} (h : stampE ck es = true) : (∀ x ∈ es, x.2.2 < ck) ∧ (es.map fun x => x.2.2).Nodup := by
  unfold stampE at h
  split at h
  · rename_i h1 h2
    exact ⟨bornLt_mem h1, nodupN_ok h2⟩
  · cases h
/-- the shape of a loop over a map -/
structure Ml where
  i : Tmp
  t1 : Tmp
  t2 : Tmp
  t3 : Tmp
  ops2 : Array Oper
  rest : List Oper
  r3 : Code
  k : Nat
  j : Nat
def mlOf : Code → Option Ml
  | .seq (.region _ ops1 false) (.seq (.cond (.tmp c) .skip (.exit k)) (.block j (.seq (.region _ ops2 false) r3))) => match ops1.toList, ops2.toList with
    | [⟨some t1, .next (.tmp i) false, _, _, _, none⟩, ⟨some t2, .extract (.tmp t) 0, _, _, _, none⟩], ⟨some t3, .entry (.tmp i'), _, _, _, none⟩ :: rest => match Nat.beq t t1, Nat.beq c t2, Nat.beq i' i with
      | true, true, true => some ⟨i, t1, t2, t3, ops2, rest, r3, k, j⟩
      | _, _, _ => none
    | _, _ => none
  | _ => none
/-- what is meant by it -/
structure MlOk (c : Code) (m : Ml) : Prop where
  code : ∃ id1 id2 ops1 o1 o2 o3, c = .seq (.region id1 ops1 false) (.seq (.cond (.tmp m.t2) .skip (.exit m.k)) (.block m.j (.seq (.region id2 m.ops2 false) m.r3))) ∧ ops1.toList = [o1, o2] ∧ m.ops2.toList = o3 :: m.rest ∧
    (o1.dst = some m.t1 ∧ o1.op = .next (.tmp m.i) false ∧ o1.guard = none) ∧ (o2.dst = some m.t2 ∧ o2.op = .extract (.tmp m.t1) 0 ∧ o2.guard = none) ∧ (o3.dst = some m.t3 ∧ o3.op = .entry (.tmp m.i) ∧ o3.guard = none)
theorem mlOf_ok {c : Code} {m : Ml} (h : mlOf c = some m) : MlOk c m := by
  unfold mlOf at h
  split at h
  · split at h
    · rename_i h1 h2
      split at h
      · rename_i b1 b2 b3
        injection h with h; subst h
        obtain rfl := Nat.eq_of_beq_eq_true b1
        obtain rfl := Nat.eq_of_beq_eq_true b2
        obtain rfl := Nat.eq_of_beq_eq_true b3
        exact ⟨_, _, _, _, _, _, rfl, h1, h2, ⟨rfl, rfl, rfl⟩, ⟨rfl, rfl, rfl⟩, ⟨rfl, rfl, rfl⟩⟩
      · cases h
    · cases h
  · cases h
def nameV : RV → List Nat
  | .ptr b _ => [b]
  | .sl b _ _ _ => [b]
  | .slu b _ _ _ => [b]
  | .sle b _ _ _ => [b]
  | .mp b => [b]
  | _ => []
def namesS : List Seg → List Nat
  | [] => []
  | .one v :: r => nameV v ++ namesS r
  | _ :: r => namesS r
def sameO (h h5 : Hp) (b i : Nat) : Bool := match Nat.beq i b with
  | true => true
  | false => match h.at? i, h5.at? i with
    | none, _ => true
    | some x, some y => eqRO y x
    | _, _ => false
/-- the frame as a round's own part begins -/
noncomputable def mlF (m : Ml) (F : Fr) (x : RV × RV × Nat) : Fr :=
  ((F.put (some m.t1) (.tup [.lit (.bool true), x.1, x.2.1])).put (some m.t2) (.lit (.bool true))).put (some m.t3) (.tup [x.1, x.2.1])
noncomputable def mlRun (Ty : Tr TypeInfo) (call : CallE) (lf : Nat) (m : Ml) (F : Fr) (h : Hp) : Option (Xt × Fr × Hp) :=
  blockE m.j (thenE (evCode Ty call lf m.r3) (regE (evOps Ty call m.ops2.toList m.rest F h)))
noncomputable def mlEnd (F : Fr) (h : Hp) (b : Nat) (fp : List Nat) (r : Option (Xt × Fr × Hp)) : Option (Nat × List Nat × RO) := match r with
  | some (.normal, F5, h5) => match h5.at? b, F5.D with
    | some N, [] => match litRO N, Nat.beq F5.nt F.nt, leT F.T F5.T, fp.all (sameO h h5 b) with
      | true, true, true, true => some (b, fp, N)
      | _, _, _, _ => none
    | _, _ => none
  | _ => none
/-- a round, seen by itself -/
noncomputable def mlOne (Ty : Tr TypeInfo) (call : CallE) (lf : Nat) (m : Ml) (F : Fr) (h : Hp) (x : RV × RV × Nat) : Option (Nat × List Nat × RO) := match x.2.1 with
  | .ptr b 0 => match h.at? b with
    | some o => match o.segs with
      | some (ss, _) => mlEnd F h b (b :: namesS ss) (mlRun Ty call lf m (mlF m F x) (subH h (b :: namesS ss)))
      | none => none
    | none => none
  | _ => none
noncomputable def mlAll (g : RV × RV × Nat → Option (Nat × List Nat × RO)) (es : List (RV × RV × Nat)) : Option (List (Nat × List Nat × RO)) :=
  List.rec (motive := fun _ => Option (List (Nat × List Nat × RO))) (some []) (fun x _ ih => match g x, ih with
    | some p, some l => some (p :: l)
    | _, _ => none) es
def apart1 (n : Nat) (bs : List Nat) (b i : Nat) : Bool := match Nat.beq i n with
  | true => false
  | false => match Nat.beq i b with
    | true => true
    | false => match hasN i bs with
      | true => false
      | false => true
def apartL (n : Nat) (bs : List Nat) (l : List (Nat × List Nat × RO)) : Bool := l.all fun x => x.2.1.all (apart1 n bs x.1)
noncomputable def mlOut (m : Ml) (Fk : Fr) (h : Hp) (n : Nat) (l : List (Nat × List Nat × RO)) : Option (Xt × Fr × Hp) :=
  match nodupN (l.map fun x => x.1), apartL n (l.map fun x => x.1) l with
  | true, true => some (.exit m.k, (Fk.put (some m.t1) (.tup [.lit (.bool false)])).put (some m.t2) (.lit (.bool false)), (putL l h).drop n)
  | _, _ => none
/-- the temporaries of the loop are there -/
def mlTmps (m : Ml) (cs : List Nat) (nt : Nat) : Bool := match Nat.beq m.t1 m.i, Nat.beq m.t2 m.i with
  | false, false => (m.t1 :: m.t2 :: m.t3 :: cs).all fun c => Nat.ble (c + 1) nt
  | _, _ => false
noncomputable def evMl (Ty : Tr TypeInfo) (call : CallE) (lf : Nat) (m : Ml) (cs : List Nat) : CodeE := fun F h => match F.D, mlTmps m cs F.nt, opd (F.clear cs) (.tmp m.i) with
  | [], true, some (.ptr n 0) => match h.at? n with
    | some (.itr (some q) since [] c0) => match h.at? q with
      | some (.map es ck) => match stampE since es, Nat.ble since c0, Nat.ble since ck, mlAll (mlOne Ty call lf m (F.clear cs) h) es with
        | true, true, true, some l => mlOut m (F.clear cs) h n l
        | _, _, _, _ => none
      | _ => none
    | _ => none
  | _, _, _ => none
theorem mlAll_zip {g : RV × RV × Nat → Option (Nat × List Nat × RO)} : ∀ {es : List (RV × RV × Nat)} {l : List (Nat × List Nat × RO)}, mlAll g es = some l → ∃ Z : List ((RV × RV × Nat) × (Nat × List Nat × RO)), Z.map (fun z => z.1) = es ∧ Z.map (fun z => z.2) = l ∧ ∀ z ∈ Z, g z.1 = some z.2
  | [], l, h => by
    injection h with h; subst h
    exact ⟨[], rfl, rfl, fun z hz => by cases hz⟩
  | x :: es, l, h => by
    replace h : (match g x, mlAll g es with
      | some p, some l => some (p :: l)
      | _, _ => none) = some l := h
    split at h
    · rename_i p l' h1 h2
      injection h with h; subst h
      obtain ⟨Z, z1, z2, z3⟩ := mlAll_zip h2
      refine ⟨(x, p) :: Z, by rw [List.map_cons, z1], by rw [List.map_cons, z2], fun z hz => ?_⟩
      rcases List.mem_cons.1 hz with rfl | hz
      · exact h1
      · exact z3 z hz
    · cases h
section
variable {P : Program} {Ty : Tr TypeInfo} {B : Nat → Prop} {w0 w : World} {e : Nv} {h : Hp} {call : CallE} {lf : Nat}
/-- one operation without a guard -/
theorem one_step {rr : Option Nat} {ops : Array Oper} {o : Oper} {l : List Oper} {a : Act} {v : Value} {w' : World} {Q : Exit → Act → World → Prop} (hg : o.guard = none) (hr : (execOp a.eval o).run P w = .ok (.value v) w')
    (hk : wpListIn (rd rr) 0 P ops Q l (a.put o.dst v) w') : wpListIn (rd rr) 0 P ops Q (o :: l) a w := by
  unfold wpListIn
  rw [if_pos (by unfold Region.wanted; rw [hg])]
  exact run_wpIn hr (fun d hd => nomatch hd) hk
theorem mlOne_some {m : Ml} {F : Fr} {x : RV × RV × Nat} {p : Nat × List Nat × RO} (hp : mlOne Ty call lf m F h x = some p) :
    ∃ o ss t F5 h5, x.2.1 = .ptr p.1 0 ∧ h.at? p.1 = some o ∧ o.segs = some (ss, t) ∧ mlRun Ty call lf m (mlF m F x) (subH h p.2.1) = some (.normal, F5, h5) ∧ h5.at? p.1 = some p.2.2 ∧ F5.D = [] ∧ litRO p.2.2 = true ∧ F5.nt = F.nt ∧ leT F.T F5.T = true ∧ p.1 ∈ p.2.1 ∧
      ∀ i ∈ p.2.1, i ≠ p.1 → ∀ o, h.at? i = some o → h5.at? i = some o := by
  unfold mlOne at hp
  split at hp
  · rename_i b hb
    split at hp
    · rename_i o ho
      split at hp
      · rename_i ss t hss
        unfold mlEnd at hp
        split at hp
        · rename_i F5 h5 hrun
          split at hp
          · rename_i N hN hD
            split at hp
            · rename_i b1 b2 b3 b4
              injection hp with hp; subst hp
              refine ⟨o, ss, t, F5, h5, hb, ho, hss, hrun, hN, hD, b1, Nat.eq_of_beq_eq_true b2, b3, List.mem_cons_self .., fun i hi hn o' ho' => ?_⟩
              have hs := List.all_eq_true.1 b4 i hi
              unfold sameO at hs
              split at hs
              · rename_i hbeq
                exact (hn (Nat.eq_of_beq_eq_true hbeq)).elim
              · rw [ho'] at hs
                split at hs
                · rename_i hno; cases hno
                · rename_i x' y' hx' hy'
                  injection hx' with hx'; subst hx'
                  rw [hy', eqRO_eq hs]
                · cases hs
            · cases hp
          · cases hp
        · cases hp
      · cases hp
    · cases hp
  · cases hp
theorem map_inj {α β : Type} (f : α → β) : ∀ {l : List α}, (l.map f).Nodup → ∀ {x y : α}, x ∈ l → y ∈ l → f x = f y → x = y
  | [], _, _, _, hx, _, _ => by cases hx
  | z :: l, hn, x, y, hx, hy, he => by
    rw [List.map_cons, List.nodup_cons] at hn
    rcases List.mem_cons.1 hx with hx1 | hx1 <;> rcases List.mem_cons.1 hy with hy1 | hy1
    · rw [hx1, hy1]
    · subst hx1; exact (hn.1 (List.mem_map.2 ⟨y, hy1, he.symm⟩)).elim
    · subst hy1; exact (hn.1 (List.mem_map.2 ⟨x, hx1, he⟩)).elim
    · exact map_inj f hn.2 hx1 hy1 he
/-- the run of a round's own part -/
theorem mlRun_ok (S : Snd P Ty call) (hc : CallOk P call) (hmo : P.follows .mixedOrders = true) {m : Ml} {F F5 : Fr} {h5 : Hp} {id2 : Nat} {o3 : Oper} {a : Act} {v : Value} {Q : Exit → Act → World → Prop} (hops : m.ops2.toList = o3 :: m.rest) (hg : o3.guard = none)
    (r : RepH B w0 e h w) (hr : (execOp a.eval o3).run P w = .ok (.value v) w) (f : RepF e h.nx F (a.put o3.dst v)) (hv : mlRun Ty call lf m F h = some (.normal, F5, h5)) (hQ : ∀ e' w' a', Nv.ext h.nx e e' → RepH B w0 e' h5 w' → RepF e' h5.nx F5 a' → F5.ro = F.ro → Q .normal a' w') :
    (Code.block m.j (.seq (.region id2 m.ops2 false) m.r3)).wpIn (F.fe e) 0 P Q a w := by
  unfold mlRun at hv
  refine wpIn_block (wpIn_seq (wpIn_region_list ?_))
  rw [hops]
  refine one_step hg hr ?_
  cases hz : evOps Ty call m.ops2.toList m.rest F h with
  | none => rw [hz] at hv; cases hv
  | some q =>
    obtain ⟨F4, h4⟩ := q
    rw [hz] at hv
    replace hv : blockE m.j (evCode Ty call lf m.r3 F4 h4) = some (.normal, F5, h5) := hv
    have key := evOps_run S.op (ops := m.ops2.toList) (l := m.rest) (Q := Exit.then (Code.wpIn (F.fe e) 0 P m.r3 (Exit.inBlock m.j Q)) (Exit.inBlock m.j Q)) r f hz fun e4 w4 a4 hx4 r4 f4 hn4 hr4 => ?_
    · rw [Array.toArray_toList] at key
      exact key
    · show m.r3.wpIn (F.fe e) 0 P _ a4 w4
      rw [← fe_same hx4 f.rlt hr4]
      unfold blockE at hv
      split at hv
      · rename_i j F1 h1 hz3
        split at hv
        · rename_i hj
          injection hv with hv
          injection hv with _ hv; injection hv with e1 e2; subst e1 e2
          refine evCode_run S hc hmo m.r3 r4 f4 hz3 fun e5 w5 a5 hx5 r5 f5 hn5 hr5 => ?_
          show if j = m.j then _ else _
          rw [if_pos (Nat.eq_of_beq_eq_true hj)]
          exact hQ e5 w5 a5 (hx4.trans hx5 hn4) r5 f5 (hr5.trans hr4)
        · injection hv with hv
          injection hv with hv _; cases hv
      · rename_i hno
        refine evCode_run S hc hmo m.r3 r4 f4 hv fun e5 w5 a5 hx5 r5 f5 hn5 hr5 => ?_
        exact hQ e5 w5 a5 (hx4.trans hx5 hn4) r5 f5 (hr5.trans hr4)
end
end Go.Proofs.YtkjgmakaidfgaaaGreatDoor
