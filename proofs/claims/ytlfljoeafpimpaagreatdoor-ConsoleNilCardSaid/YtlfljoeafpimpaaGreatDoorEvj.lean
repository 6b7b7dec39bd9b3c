/- The evaluator: comparisons, arithmetic, nil checks, interface and function values. -/
import Derived.Test.YtlfljoeafpimpaaGreatDoorEvi
import Derived.Laws.StructEq
import Derived.ChangeKeysEq
namespace Go.Proofs.YtlfljoeafpimpaaGreatDoor
open Go.RowKit

section
variable {P : Program} {Ty : Tr TypeInfo} {B : Nat → Prop} {w0 w : World} {e : Nv} {h h' : Hp} {F : Fr} {a : Act} {o : Oper} {v : RV}
theorem methE_run (K : TyOk P Ty) {t : TypeId} {name : String} {g : FuncId} (hm : methE Ty t name = some g) (n : Nat) (u : Value) (w : World) :
    (method (n + 1) t u name).run P w = .ok (g, u) w ∧ (nilAhead (n + 1) t u name).run P w = .ok (some false) w := by
  unfold methE at hm
  split at hm
  · rename_i i hi
    split at hm
    · rename_i m el hf hu
      split at hm
      · rename_i q hs hq
        injection hm with hm; subst hm
        have hp : m.path = #[] := Array.eq_empty_of_size_eq_zero hs
        have ht : (typeInfo t).run P w = .ok i w := by simp [typeInfo, K.info t i hi]
        constructor
        · simp only [method, Sem.run_bind, ht, Result.andThen_ok, hf, hp, follow, Sem.run_pure, hq, receiverAt, K.undRun hu, Place.get]
        · simp only [nilAhead, Sem.run_bind, ht, Result.andThen_ok, hf, hp, followBlind, Sem.run_pure, hq]
      · cases hm
    · cases hm
  · cases hm
theorem opNil_run (K : TyOk P Ty) (f : RepF e h.nx F a) {x : Operand} (hv : opNil Ty F h x = some (v, h')) (ho : o.op = .nilCheck x) : QR P e h a o w v ∧ h' = h := by
  unfold opNil at hv
  split at hv
  · rename_i y hy
    split at hv
    · rename_i hn
      injection hv with hv
      injection hv with h1 h2; subst h1 h2
      obtain ⟨he, hl⟩ := opd_run f hy
      refine ⟨⟨?_, hl⟩, rfl⟩
      unfold execOp; rw [ho]
      simp only [he]
      unfold notNil at hn
      split at hn
      · simp only [RV.tr, Sem.run_pure]
      · simp only [RV.tr, Sem.run_pure]
      · simp only [RV.tr, Sem.run_pure]
      · rename_i name t u fs cs
        obtain ⟨g, hg⟩ := Option.isSome_iff_exists.1 hn
        have hna := (methE_run K hg (P.types.size + 99) (RV.tr e u) w).2
        have hd : P.types.size + Made.depth = P.types.size + 99 + 1 := rfl
        simp only [RV.tr, trL, List.getElem?_toArray, List.getElem?_cons_zero, Sem.run_bind, run_program, Result.andThen_ok]
        rw [hd, hna]
        rfl
      · simp only [RV.tr, Sem.run_pure]
      · simp only [RV.tr, Sem.run_pure]
      · cases hn
    · cases hv
  · cases hv
theorem if_silent {c : Bool} {m : Sem Unit} (hm : m.run P w = .ok () w) : (if c = true then pure () else m : Sem Unit).run P w = .ok () w := by
  cases c
  · exact hm
  · rfl
/-- the guard of a comparison -/
theorem guard_lit {e : Nv} {op : BinOp} {t : TypeId} {x y : Operand} {p q u : RV} (hv : evBin op p q = some u) (w : World) : (eqGuard op t x y (RV.tr e p) (RV.tr e q)).run P w = .ok () w := by
  unfold evBin at hv
  split at hv
  · split at hv
    · unfold litB at hv
      split at hv
      · split at hv
        · unfold eqGuard
          exact if_silent rfl
        · cases hv
      · split at hv
        · unfold eqGuard
          exact if_silent rfl
        · cases hv
      · cases hv
    · cases hv
  · cases hv
theorem guard_eq {e : Nv} {op : BinOp} {t : TypeId} {x y : Operand} {p q : RV} (hq : quietEq x y p q = true) (w : World) : (eqGuard op t x y (RV.tr e p) (RV.tr e q)).run P w = .ok () w := by
  unfold eqGuard
  refine if_silent ?_
  · unfold quietEq at hq
    split at hq
    · cases x <;> cases y <;> first
        | (cases hq; done)
        | rfl
    · cases hq
    · cases hq
    · rename_i h1 h2 h3
      split
      · rename_i e1 e2
        cases p <;> simp only [RV.tr] at e1 <;> try cases e1
        cases q <;> simp only [RV.tr] at e2 <;> try cases e2
        first
          | exact (h1 rfl rfl).elim
          | exact (h2 rfl rfl).elim
          | exact (h3 rfl rfl).elim
          | (trace_state; simp_all)
      · rename_i e1 e2
        cases p <;> simp only [RV.tr] at e1 <;> try cases e1
        all_goals first
          | exact (h1 _ rfl).elim
          | exact (h2 _ rfl).elim
          | exact (h3 _ rfl).elim
          | (trace_state; simp_all)
      · rfl
theorem eqop {d : TypeDesc} {p q : RV} {b : Bool} (hq : nilEq d p q = some b) (t : TypeId) : binOp .eql t (RV.tr e p) (RV.tr e q) = (do pure (.bool (← Op.equal t (RV.tr e p) (RV.tr e q)))) := by
  unfold nilEq at hq
  split at hq <;> first
    | (cases hq; done)
    | rfl
theorem neop {d : TypeDesc} {p q : RV} {b : Bool} (hq : nilEq d p q = some b) (t : TypeId) : binOp .neq t (RV.tr e p) (RV.tr e q) = (do pure (.bool (!(← Op.equal t (RV.tr e p) (RV.tr e q))))) := by
  unfold nilEq at hq
  split at hq <;> first
    | (cases hq; done)
    | rfl
theorem opEq_run (K : TyOk P Ty) (w : World) {op : BinOp} {t : TypeId} {x y : Operand} {p q : RV} (hv : opEq Ty h op t x y p q = some (v, h')) :
    (do eqGuard op t x y (RV.tr e p) (RV.tr e q); binOp op t (RV.tr e p) (RV.tr e q) : Sem Value).run P w = .ok (RV.tr e v) w ∧ h' = h ∧ ∀ n, RV.lt n v := by
  unfold opEq at hv
  split at hv
  · rename_i pos hp
    split at hv
    · rename_i d hd
      split at hv
      · rename_i c hc
        split at hv
        · rename_i hq
          injection hv with hv
          injection hv with h1 h2; subst h1 h2
          refine ⟨?_, rfl, fun _ => trivial⟩
          simp only [Sem.run_bind, guard_eq hq w, Result.andThen_ok]
          have he := nilEq_run (P := P) K (e := e) hd hc w
          unfold isEq at hp
          split at hp
          · injection hp with hp; subst hp
            rw [eqop hc]
            simp only [Sem.run_bind, he, Result.andThen_ok, Sem.run_pure, RV.tr]
            cases c <;> rfl
          · injection hp with hp; subst hp
            rw [neop hc]
            simp only [Sem.run_bind, he, Result.andThen_ok, Sem.run_pure, RV.tr]
            cases c <;> rfl
          · cases hp
        · cases hv
      · cases hv
    · cases hv
  · cases hv
/-! equality of structs and arrays -/
theorem basicEq_run (K : TyOk P Ty) {t : TypeId} {d : TypeDesc} {x y : RV} {b : Bool} (hu : undE Ty t = some d) (hb : basicEq d x y = some b) (n : Nat) (w : World) :
    (Op.equalIn (n + 1) t (RV.tr e x) (RV.tr e y)).run P w = .ok b w := by
  unfold basicEq at hb
  split at hb
  · split at hb
    · rename_i k' hk
      obtain rfl := of_decide_eq_true hk
      injection hb with hb; subst hb
      exact run_equalIn_int w n t _ _ _ _ (K.und hu)
    · cases hb
  · split at hb
    · injection hb with hb; subst hb
      rw [← ByteArray.toList_eq, ← ByteArray.toList_eq]
      exact run_equalIn_string w n t _ _ (K.und hu)
    · cases hb
  · exact nilEq_in (K.undRun hu) hb w n
theorem eqFs_run (K : TyOk P Ty) {rec : TypeId → RV → RV → Option Bool} {cs ds : List Seg} (w : World) (D : Nat) (hr : ∀ t x y b, rec t x y = some b → (Op.equalIn D t (RV.tr e x) (RV.tr e y)).run P w = .ok b w) :
    ∀ {fs : List Field} {b : Bool}, eqFs Ty rec cs ds fs = some b → (Op.eqFields D (trS e cs).toArray (trS e ds).toArray fs).run P w = .ok b w
  | [], b, hv => by
    injection hv with hv; subst hv
    rfl
  | f :: fs, b, hv => by
    unfold eqFs at hv
    split at hv
    · rename_i hn
      have hn := of_decide_eq_true hn
      have := eqFs_run K w D hr hv
      simp only [Op.eqFields, hn, ne_eq, not_true_eq_false, if_false]
      exact this
    · rename_i hn
      have hn : ¬ f.name = "_" := of_decide_eq_false hn
      split at hv
      · rename_i x y hx hy
        have p1 := (evPart_run' K (e := e) hx w)
        have p2 := (evPart_run' K (e := e) hy w)
        split at hv
        · rename_i hq
          have h3 := hr _ _ _ _ hq
          have := eqFs_run K w D hr hv
          simp only [Op.eqFields, hn, ne_eq, not_false_eq_true, if_true, Sem.run_bind, p1, p2, h3, Result.andThen_ok]
          exact this
        · rename_i hq
          injection hv with hv; subst hv
          have h3 := hr _ _ _ _ hq
          simp only [Op.eqFields, hn, ne_eq, not_false_eq_true, if_true, Sem.run_bind, p1, p2, h3, Result.andThen_ok]
          rfl
        · cases hv
      · cases hv
theorem byte_bits {a b m : Nat} : a % 2 ^ (8 * m) = b % 2 ^ (8 * m) ↔ ∀ i, i < m → (a >>> (8 * i)) % 256 = (b >>> (8 * i)) % 256 := by
  constructor
  · intro h i hi
    apply Nat.eq_of_testBit_eq
    intro j
    rw [show (256 : Nat) = 2 ^ 8 from rfl, Nat.testBit_mod_two_pow, Nat.testBit_mod_two_pow, Nat.testBit_shiftRight, Nat.testBit_shiftRight]
    by_cases hj : j < 8
    · have hk := congrArg (fun n => Nat.testBit n (8 * i + j)) h
      simp only [Nat.testBit_mod_two_pow] at hk
      have : 8 * i + j < 8 * m := by omega
      simpa [hj, this] using hk
    · simp [hj]
  · intro h
    apply Nat.eq_of_testBit_eq
    intro k
    rw [Nat.testBit_mod_two_pow, Nat.testBit_mod_two_pow]
    by_cases hk : k < 8 * m
    · have hb := congrArg (fun n => Nat.testBit n (k % 8)) (h (k / 8) (by omega))
      simp only [show (256 : Nat) = 2 ^ 8 from rfl, Nat.testBit_mod_two_pow, Nat.testBit_shiftRight] at hb
      have h8 : k % 8 < 8 := by omega
      have h9 : 8 * (k / 8) + k % 8 = k := by omega
      simpa [hk, h8, h9] using hb
    · simp [hk]
theorem eqItems_run (K : TyOk P Ty) {el : TypeId} (hu : undE Ty el = some (.int .u8)) (a b m D : Nat) (w : World) : ∀ is : List Nat, (∀ i ∈ is, i < m) →
    (Op.eqItems (D + 1) el 1 (bytV a m).toArray (bytV b m).toArray is).run P w = .ok (is.all fun i => (a >>> (8 * i)) % 256 == (b >>> (8 * i)) % 256) w
  | [], _ => rfl
  | i :: is, h => by
    have hi := h i (List.mem_cons_self ..)
    have ha : aggE Ty el = some false := by unfold aggE; rw [hu]; rfl
    have hget : ∀ n, (bytV n m).toArray[i]? = some (byV n i) := fun n => by
      rw [List.getElem?_toArray]
      unfold bytV
      rw [List.getElem?_map, List.getElem?_range hi]
      rfl
    have p1 : ∀ n, (part el (bytV n m).toArray (i * 1)).run P w = .ok (byV n i) w := fun n => by
      rw [Nat.mul_one]
      simp [part, Sem.run_bind, K.agg ha, hget n]
    have h3 := run_equalIn_int (P := P) w D el .u8 .u8 (((a >>> (8 * i)) % 256 : Nat) : Int) (((b >>> (8 * i)) % 256 : Nat) : Int) (K.und hu)
    have ih := eqItems_run K hu a b m D w is fun j hj => h j (List.mem_cons_of_mem _ hj)
    simp only [Op.eqItems, Sem.run_bind, p1, Result.andThen_ok, byV, h3, List.all_cons]
    have hbe : ((((a >>> (8 * i)) % 256 : Nat) : Int) == (((b >>> (8 * i)) % 256 : Nat) : Int)) = ((a >>> (8 * i)) % 256 == (b >>> (8 * i)) % 256) := by
      rw [Bool.eq_iff_iff]
      simp only [beq_iff_eq]
      omega
    rw [hbe]
    cases hc : ((a >>> (8 * i)) % 256 == (b >>> (8 * i)) % 256)
    · rfl
    · simp only [Bool.not_true, Bool.false_eq_true, if_false, Bool.true_and]
      exact ih
/-- what the comparison asks of types -/
def FlatOk (P : Program) (flat : TypeId → Bool) : Prop := ∀ t, flat t = true → P.stoodInHeld t = false ∧ P.eqGuardType P.depth t = false
theorem eqE_run (K : TyOk P Ty) {flat : TypeId → Bool} (hfl : FlatOk P flat) (m : Nat) (w : World) : ∀ (n : Nat) {t : TypeId} {x y : RV} {b : Bool}, eqE Ty flat n t x y = some b → (Op.equalIn (n + m) t (RV.tr e x) (RV.tr e y)).run P w = .ok b w
  | 0, _, _, _, _, hv => by cases hv
  | n + 1, t, x, y, b, hv => by
    rw [show n + 1 + m = (n + m) + 1 by omega]
    unfold eqE at hv
    split at hv
    · rename_i cs
      split at hv
      · rename_i ds
        split at hv
        · rename_i fs hu
          split at hv
          · rename_i hft
            have hfo : P.fieldsOf t = fs := by unfold Program.fieldsOf; rw [K.und hu]
            simp only [RV.tr]
            rw [run_equalIn_struct w (n + m) t _ _ (by rw [hfo]; exact K.und hu) (hfl t hft).1, hfo]
            exact eqFs_run K w (n + m) (fun t x y b hb => eqE_run K hfl m w n hb) hv
          · cases hv
        · rename_i len el hu
          split at hv
          · rename_i a k c j hel hsz
            split at hv
            · rename_i n' b1 b2
              injection hv with hv; subst hv
              obtain rfl := Nat.eq_of_beq_eq_true b1
              obtain rfl := Nat.eq_of_beq_eq_true b2
              obtain ⟨i, hi, his⟩ := K.sz hsz
              have hce : P.cellsOf el = 1 := by unfold Program.cellsOf; rw [hi]; exact his
              simp only [RV.tr, trS, Seg.tr, List.append_nil]
              rw [run_equalIn_array w (n' + 1 + m) _ _ (K.und hu) hi, hce]
              rw [show n' + 1 + m = (n' + m) + 1 by omega, eqItems_run K hel a c j (n' + m) w (List.range j) fun i hi => List.mem_range.1 hi]
              congr 1
              have hbq : Nat.beq (a % 2 ^ (8 * j)) (c % 2 ^ (8 * j)) = true ↔ a % 2 ^ (8 * j) = c % 2 ^ (8 * j) := ⟨Nat.eq_of_beq_eq_true, fun h => by rw [h]; exact Nat.beq_refl _⟩
              rw [Bool.eq_iff_iff, hbq, byte_bits, List.all_eq_true]
              simp only [List.mem_range, beq_iff_eq]
            · cases hv
          · cases hv
        · cases hv
      · cases hv
    · split at hv
      · rename_i d hu
        exact basicEq_run K hu hv (n + m) w
      · cases hv
theorem opEqA_run (K : TyOk P Ty) {flat : TypeId → Bool} (hfl : FlatOk P flat) (w : World) {op : BinOp} {t : TypeId} {x y : Operand} {cs : List Seg} {q : RV} (hv : opEqA Ty flat h op t (.agg cs) q = some (v, h')) :
    (do eqGuard op t x y (RV.tr e (.agg cs)) (RV.tr e q); binOp op t (RV.tr e (.agg cs)) (RV.tr e q) : Sem Value).run P w = .ok (RV.tr e v) w ∧ h' = h ∧ ∀ n, RV.lt n v := by
  unfold opEqA at hv
  split at hv
  · rename_i pos ds hp
    split at hv
    · rename_i hft
      split at hv
      · rename_i c hc
        injection hv with hv
        injection hv with h1 h2; subst h1 h2
        refine ⟨?_, rfl, fun _ => trivial⟩
        have he : (Op.equalIn 10000 t (RV.tr e (.agg cs)) (RV.tr e (.agg ds))).run P w = .ok c w := eqE_run K hfl 9991 w 9 hc
        have hg : ∀ w, (eqGuard op t x y (RV.tr e (.agg cs)) (RV.tr e (.agg ds))).run P w = .ok () w := fun w => by
          unfold eqGuard
          refine if_silent ?_
          simp only [RV.tr, Sem.run_bind, run_program, Result.andThen_ok, (hfl t hft).2, Bool.not_false, if_true]
          rfl
        simp only [Sem.run_bind, hg, Result.andThen_ok]
        simp only [RV.tr] at he ⊢
        unfold isEq at hp
        split at hp
        · injection hp with hp; subst hp
          rw [run_eql_struct, he]
          cases c <;> rfl
        · injection hp with hp; subst hp
          rw [run_neq_struct, he]
          cases c <;> rfl
        · cases hp
      · cases hv
    · cases hv
  · cases hv
theorem rstEq_is (c : UInt8) : ∀ (n : Nat) (l : List UInt8), rstEq c n l = (List.replicate n c == l)
  | 0, [] => rfl
  | 0, _ :: _ => rfl
  | n + 1, [] => rfl
  | n + 1, x :: l => by
    have ih := rstEq_is c n l
    rw [List.replicate_succ]
    show (match c == x with
      | true => rstEq c n l
      | false => false) = (c == x && List.replicate n c == l)
    cases c == x
    · rfl
    · exact ih
theorem rstB_bin {e : Nv} {op : BinOp} {p q : RV} {c : Bool} (h : rstB op p q = some c) : ∃ p' q', RV.tr e p = RV.tr e p' ∧ RV.tr e q = RV.tr e q' ∧ evBin op p' q' = some (.lit (.bool c)) := by
  unfold rstB at h
  split at h
  · rename_i s x k
    injection h with h; subst h
    refine ⟨.lit (.string s), .lit (.string ⟨⟨List.replicate k x⟩⟩), rfl, rfl, ?_⟩
    rw [rstEq_is, BEq.comm]
    rfl
  · cases h
theorem opBin_run (K : TyOk P Ty) {flat : TypeId → Bool} (hfl : FlatOk P flat) (f : RepF e h.nx F a) {op : BinOp} {t z : TypeId} {x y : Operand} (hv : opBin Ty flat F h op t x y = some (v, h')) (ho : o.op = .binOp op t x y z) : QR P e h a o w v ∧ h' = h := by
  unfold opBin at hv
  split at hv
  · rename_i p hp
    split at hv
    · rename_i q hq
      split at hv
      · rename_i u hu
        injection hv with hv
        injection hv with h1 h2; subst h1 h2
        obtain ⟨hr, l, rfl⟩ := evBin_run (P := P) (e := e) (t := t) hu w
        refine ⟨⟨?_, trivial⟩, rfl⟩
        unfold execOp; rw [ho]
        simp only [(opd_run f hp).1, (opd_run f hq).1]
        exact run_value (by simp only [Sem.run_bind, guard_lit hu w, Result.andThen_ok, hr])
      · split at hv
        · rename_i c hc
          injection hv with hv
          injection hv with h1 h2; subst h1 h2
          obtain ⟨p', q', e1, e2, hu⟩ := rstB_bin (e := e) hc
          obtain ⟨hr, _⟩ := evBin_run (P := P) (e := e) (t := t) hu w
          refine ⟨⟨?_, trivial⟩, rfl⟩
          unfold execOp; rw [ho]
          simp only [(opd_run f hp).1, (opd_run f hq).1, e1, e2]
          exact run_value (by simp only [Sem.run_bind, guard_lit hu w, Result.andThen_ok, hr])
        · split at hv
          · obtain ⟨hr, rfl, hl⟩ := opEqA_run (e := e) (x := x) (y := y) K hfl w hv
            refine ⟨⟨?_, (hl _)⟩, rfl⟩
            unfold execOp; rw [ho]
            simp only [(opd_run f hp).1, (opd_run f hq).1]
            exact run_value hr
          · obtain ⟨hr, rfl, hl⟩ := opEq_run (e := e) K w hv
            refine ⟨⟨?_, (hl _)⟩, rfl⟩
            unfold execOp; rw [ho]
            simp only [(opd_run f hp).1, (opd_run f hq).1]
            exact run_value hr
    · cases hv
  · cases hv
theorem opUn_run (f : RepF e h.nx F a) {op : UnOp} {t : TypeId} {x : Operand} (hv : opUn F h op x = some (v, h')) (ho : o.op = .unOp op t x) : QR P e h a o w v ∧ h' = h := by
  unfold opUn at hv
  split at hv
  · split at hv
    · rename_i b hb
      injection hv with hv
      injection hv with h1 h2; subst h1 h2
      refine ⟨⟨?_, trivial⟩, rfl⟩
      unfold execOp; rw [ho]
      simp only [(opd_run f hb).1, RV.tr]
      exact run_value rfl
    · cases hv
  · split at hv
    · rename_i k n hb
      split at hv
      · rename_i u hu
        injection hv with hv
        injection hv with h1 h2; subst h1 h2
        refine ⟨⟨?_, trivial⟩, rfl⟩
        unfold execOp; rw [ho]
        simp only [(opd_run f hb).1, RV.tr]
        refine run_value ?_
        unfold xorB at hu
        injection hu with hu; subst hu
        simp [Op.unary, Op.intBits]
      · cases hv
    · cases hv
  · split at hv
    · rename_i k n hb
      injection hv with hv
      injection hv with h1 h2; subst h1 h2
      refine ⟨⟨?_, trivial⟩, rfl⟩
      unfold execOp; rw [ho]
      simp only [(opd_run f hb).1, RV.tr]
      refine run_value ?_
      simp [Op.unary, Op.intArith]
    · cases hv
  · cases hv
theorem opIfc_run (K : TyOk P Ty) (f : RepF e h.nx F a) {t : TypeId} {x : Operand} (hv : opIfc Ty F h t x = some (v, h')) (ho : o.op = .makeInterface t x) : QR P e h a o w v ∧ h' = h := by
  unfold opIfc at hv
  split at hv
  · rename_i hc
    obtain ⟨y, hy, hh⟩ := some_map hv
    injection hh with h1 h2; subst h1 h2
    obtain ⟨he, hl⟩ := opd_run f hy
    refine ⟨⟨?_, hl⟩, rfl⟩
    unfold execOp; rw [ho]
    simp only [he]
    refine run_value ?_
    unfold concE at hc
    split at hc
    · cases hc
    · rename_i d hn hd
      unfold Instr.makeInterface
      simp only [Sem.run_bind, K.undRun hd, Result.andThen_ok]
      simp only [Sem.run_pure, RV.tr]
    · cases hc
  · cases hv
theorem opds_run (f : RepF e h.nx F a) : ∀ {l : List Operand} {vs : List RV}, opds F l = some vs → l.map a.eval = trL e vs ∧ ltL h.nx vs
  | [], vs, hv => by
    injection hv with hv; subst hv
    exact ⟨rfl, trivial⟩
  | x :: l, vs, hv => by
    unfold opds at hv
    split at hv
    · rename_i y ys hy hys
      injection hv with hv; subst hv
      obtain ⟨h1, h2⟩ := opds_run f hys
      obtain ⟨h3, h4⟩ := opd_run f hy
      exact ⟨by rw [List.map_cons, h1, h3, trL], h4, h2⟩
    · cases hv
theorem opFunc_run (f : RepF e h.nx F a) {fn : Fn} {x y : Array Operand} (hv : opFunc F h fn x y = some (v, h')) (ho : o.op = .makeFunc fn x y) : QR P e h a o w v ∧ h' = h := by
  unfold opFunc at hv
  split at hv
  · rename_i p hp
    split at hv
    · rename_i q hq
      injection hv with hv
      injection hv with h1 h2; subst h1 h2
      obtain ⟨h3, h4⟩ := opds_run f hp
      obtain ⟨h5, h6⟩ := opds_run f hq
      refine ⟨⟨?_, ⟨h4, h6⟩⟩, rfl⟩
      unfold execOp; rw [ho]
      refine run_value ?_
      have g1 : x.map a.eval = (trL e p).toArray := by rw [← h3, ← Array.toList_map, Array.toArray_toList]
      have g2 : y.map a.eval = (trL e q).toArray := by rw [← h5, ← Array.toList_map, Array.toArray_toList]
      show (Instr.makeFunc fn (x.map a.eval) (y.map a.eval)).run P w = _
      rw [g1, g2]; rfl
    · cases hv
  · cases hv
end
end Go.Proofs.YtlfljoeafpimpaaGreatDoor
