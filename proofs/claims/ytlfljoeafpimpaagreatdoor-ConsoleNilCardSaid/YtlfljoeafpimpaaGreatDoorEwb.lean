/- The evaluator: a region whose order is drawn. -/
import Derived.Test.YtlfljoeafpimpaaGreatDoorEwe
namespace Go.Proofs.YtlfljoeafpimpaaGreatDoor
open Go.RowKit

section
variable {P : Program} {Ty : Tr TypeInfo} {B : Nat → Prop} {w0 : World} {call : CallE}
/-- every operation of the evaluator is the machine's; those that only read do nothing else -/
structure Snd (P : Program) (Ty : Tr TypeInfo) (call : CallE) : Prop where
  ty : TyOk P Ty
  op : OpSound P Ty call
  quiet : ∀ {B : Nat → Prop} {w0 w : World} {e : Nv} {h h' : Hp} {F : Fr} {a : Act} {o : Oper} {v : RV}, RepH B w0 e h w → RepF e h.nx F a → quietK Ty o = true → evOp Ty call F h o = some (v, h') → QR P e h a o w v ∧ h' = h
/-- what was taken, what it does, what it yields -/
abbrev Dt := Cm × Sem Next × Value
structure CmI (Ty : Tr TypeInfo) (ops : Array Oper) (listed : Array Bool) (a : Act) (e : Nv) (nx : Nat) (q : Dt) : Prop where
  mem : ops[q.1.i]? = some q.1.o
  quiet : quietK Ty q.1.o = true
  run : execOp a.eval q.1.o = q.2.1
  val : q.2.2 = RV.tr e q.1.v
  lt : RV.lt nx q.1.v
  out : ∀ j oj, ops[j]? = some oj → listed.getD j true = false → ∀ d, oj.dst = some d → d ∉ q.1.o.looksAt ops ∨ (isAssign oj = true ∧ waitsB oj q.1.i = true)
def Waits (Ty : Tr TypeInfo) (ops : Array Oper) (m : Array Bool) (i : Nat) : Prop :=
  ∃ (j : Nat) (oj : Oper), ops[j]? = some oj ∧ quietK Ty oj = false ∧ m.getD j false = true ∧ ∃ e ∈ oj.after, Region.binds .any e = true ∧ e.on = i
def SxC (P : Program) (Ty : Tr TypeInfo) (ops : Array Oper) (D : List Dt) : Sx := fun m w => ∀ q ∈ D, Waits Ty ops m q.1.i ∨ q.2.1.run P w = .ok (.value q.2.2) w
variable {ops : Array Oper} {Q : Exit → Act → World → Prop}
theorem Waits.up {m n : Array Bool} {i : Nat} (h : Waits Ty ops m i) (hu : Up m n) : Waits Ty ops n i := by
  obtain ⟨j, oj, h1, h2, h3, h4⟩ := h
  exact ⟨j, oj, h1, h2, hu j h3, h4⟩
theorem SxC.blind {D : List Dt} {i : Nat} {o : Oper} (hi : ops[i]? = some o) (hq : quietK Ty o = true) : Blind (SxC P Ty ops D) i := by
  intro m w
  have key : ∀ k, Waits Ty ops (m.setIfInBounds i true) k ↔ Waits Ty ops m k := by
    intro k
    refine ⟨fun h => ?_, fun h => h.up (Up.set m i)⟩
    obtain ⟨j, oj, h1, h2, h3, h4⟩ := h
    have hij : i ≠ j := by
      intro hij; subst hij
      rw [hi] at h1; injection h1 with h1; subst h1
      rw [hq] at h2; cases h2
    rw [getD_set_false hij] at h3
    exact ⟨j, oj, h1, h2, h3, h4⟩
  unfold SxC
  constructor
  · intro h q hq; exact (h q hq).imp (key _).1 id
  · intro h q hq; exact (h q hq).imp (key _).2 id
theorem SxC.sub {D D' : List Dt} (hs : ∀ q ∈ D, q ∈ D') {m : Array Bool} {w : World} (h : SxC P Ty ops D' m w) : SxC P Ty ops D m w := fun q hq => h q (hs q hq)
theorem out_set {j k : Nat} {listed : Array Bool} (h : (listed.setIfInBounds j true).getD k true = false) : listed.getD k true = false := by
  by_cases hjk : j = k
  · subst hjk
    rcases Nat.lt_or_ge j listed.size with h1 | h1
    · simp [h1] at h
    · simp [h1] at h
  · rw [getD_set_ne true hjk] at h; exact h
theorem noSel (hsel : Region.noSelect ops = true) {i : Nat} {o : Oper} (hi : ops[i]? = some o) : ∀ cs b, o.op ≠ .select cs b := fun cs b => Region.noSelect_spec hsel i o cs b hi
/-- behind another operation's value -/
theorem CmI.put {listed : Array Bool} {a : Act} {e e' : Nv} {nx nx' : Nat} {q : Dt} (h : CmI Ty ops listed a e nx q) (hsel : Region.noSelect ops = true) {j : Nat} {oj : Oper} (hj : ops[j]? = some oj) (hjl : listed.getD j true = false)
    (hw : isAssign oj = true → waitsB oj q.1.i = false) (hx : Nv.ext nx e e') (hn : nx ≤ nx') (u : Value) : CmI Ty ops (listed.setIfInBounds j true) (a.put oj.dst u) e' nx' q := by
  refine ⟨h.mem, h.quiet, ?_, ?_, RV.lt_mono hn _ h.lt, fun k ok hk hkl => h.out k ok hk (out_set hkl)⟩
  · rw [execOp_put q.1.o (noSel hsel h.mem) a oj.dst u fun d hd => (h.out j oj hj hjl d hd).resolve_right fun h1 => by
      have := hw h1.1
      rw [h1.2] at this; cases this]
    exact h.run
  · rw [RV.tr_ext hx _ h.lt]; exact h.val
theorem unseen_spec {listed : Array Bool} {o : Oper} (h : unseen ops listed o = true) : ∀ j oj, ops[j]? = some oj → listed.getD j true = false → ∀ d, oj.dst = some d → d ∉ o.looksAt ops := by
  intro j oj hj hl d hd
  unfold unseen at h
  rw [List.all_eq_true] at h
  have h1 := h j (List.mem_range.2 (Array.getElem?_eq_some_iff.1 hj).1)
  simp only [hj, hl, hd, Bool.false_or] at h1
  simpa using h1
theorem unseenQ_spec {listed : Array Bool} {i : Nat} {o : Oper} (h : unseenQ ops listed i o = true) : ∀ j oj, ops[j]? = some oj → listed.getD j true = false → ∀ d, oj.dst = some d → d ∉ o.looksAt ops ∨ (isAssign oj = true ∧ waitsB oj i = true) := by
  intro j oj hj hl d hd
  unfold unseenQ at h
  rw [List.all_eq_true] at h
  have h1 := h j (List.mem_range.2 (Array.getElem?_eq_some_iff.1 hj).1)
  simp only [hj, hl, hd, Bool.false_or, Bool.or_eq_true, Bool.and_eq_true] at h1
  exact h1.imp (by simp) id
theorem quiet_noassign {o : Oper} (h : quietK Ty o = true) : isAssign o = false := by
  unfold quietK at h
  unfold isAssign
  cases ho : o.op <;> rw [ho] at h <;> first
    | rfl
    | cases h
theorem loose_noassign {o : Oper} (h : loose Ty o = true) : isAssign o = false := by
  unfold loose at h
  unfold isAssign
  cases hf : floatE Ty o with
  | true =>
    obtain ⟨_, _, hforms⟩ := float_forms hf
    rcases hforms with ⟨t, ho⟩ | ⟨t, x, ho⟩ | ⟨t, n, ps, ho⟩ | ⟨s, d, x, el, ho, hs, hd⟩ <;> rw [ho]
  | false =>
    rw [hf] at h
    cases hm : markE Ty o with
    | none => rw [hm] at h; cases h
    | some y =>
      obtain ⟨_, _, s, d, el, ho, _⟩ := mark_form hm
      rw [ho]
theorem pickQ_some : ∀ {l : List Nat} {j : Nat} {o : Oper}, pickQ Ty ops l = some (j, o) → j ∈ l ∧ ops[j]? = some o ∧ quietK Ty o = true
  | [], j, o, h => by cases h
  | i :: r, j, o, h => by
    unfold pickQ at h
    split at h
    · rename_i oi hi
      split at h
      · rename_i hq
        injection h with h; injection h with h1 h2; subst h1 h2
        exact ⟨List.mem_cons_self .., hi, hq⟩
      · obtain ⟨h1, h2⟩ := pickQ_some h
        exact ⟨List.mem_cons_of_mem _ h1, h2⟩
    · obtain ⟨h1, h2⟩ := pickQ_some h
      exact ⟨List.mem_cons_of_mem _ h1, h2⟩
theorem pickQ_none : ∀ {l : List Nat} {i : Nat} {o : Oper}, pickQ Ty ops l = none → i ∈ l → ops[i]? = some o → quietK Ty o = false
  | [], _, _, _, hi, _ => by cases hi
  | j :: l, i, o, h, hi, ho => by
    unfold pickQ at h
    rcases List.mem_cons.1 hi with rfl | hi
    · rw [ho] at h
      simp only at h
      split at h
      · cases h
      · assumption
    · split at h
      · split at h
        · cases h
        · exact pickQ_none h hi ho
      · exact pickQ_none h hi ho
theorem recheck_run {listed : Array Bool} {F : Fr} {h1 : Hp} {L : Oper} {e e1 : Nv} {nx : Nat} {w1 : World} {a : Act} (S : Snd P Ty call) (r1 : RepH B w0 e1 h1 w1) (f1 : RepF e1 h1.nx F a) (hx : Nv.ext nx e e1) :
    ∀ {D : List Dt} {C' : List Cm}, (∀ q ∈ D, CmI Ty ops listed a e nx q) → recheck (evOp Ty call) F h1 L (D.map Prod.fst) = some C' →
      ∃ D' : List Dt, D'.map Prod.fst = C' ∧ (∀ q ∈ D', q ∈ D) ∧ (∀ q ∈ D', q.2.1.run P w1 = .ok (.value q.2.2) w1) ∧ (∀ q ∈ D, q ∈ D' ∨ waitsB L q.1.i = true) ∧ ∀ q ∈ D', waitsB L q.1.i = false
  | [], C', _, hv => by
    replace hv := Option.some.inj hv; subst hv
    exact ⟨[], rfl, (fun q hq => by cases hq), (fun q hq => by cases hq), (fun q hq => by cases hq), (fun q hq => by cases hq)⟩
  | q :: D, C', hD, hv => by
    replace hv : (match recheck (evOp Ty call) F h1 L (D.map Prod.fst) with
      | none => none
      | some r => match waitsB L q.1.i with
        | true => some r
        | false => match evOp Ty call F h1 q.1.o with
          | some (v, _) => match eqRV v q.1.v with
            | true => some (q.1 :: r)
            | false => none
          | none => none) = some C' := hv
    split at hv
    · cases hv
    · rename_i r hr
      obtain ⟨D', g1, g2, g3, g4, g5⟩ := recheck_run S r1 f1 hx (fun q hq => hD q (List.mem_cons_of_mem _ hq)) hr
      have hq := hD q (List.mem_cons_self ..)
      split at hv
      · rename_i hw
        injection hv with hv; subst hv
        refine ⟨D', g1, fun p hp => List.mem_cons_of_mem _ (g2 p hp), g3, fun p hp => ?_, g5⟩
        rcases List.mem_cons.1 hp with rfl | hp
        · exact .inr hw
        · exact g4 p hp
      · split at hv
        · rename_i v h2 hz
          split at hv
          · rename_i heq
            injection hv with hv; subst hv
            have heq := eqRV_eq heq
            subst heq
            refine ⟨q :: D', by rw [List.map_cons, g1], fun p hp => ?_, fun p hp => ?_, fun p hp => ?_, fun p hp => ?_⟩
            · rcases List.mem_cons.1 hp with rfl | hp
              · exact List.mem_cons_self ..
              · exact List.mem_cons_of_mem _ (g2 p hp)
            · rcases List.mem_cons.1 hp with rfl | hp
              · have hqr := (S.quiet r1 f1 hq.quiet hz).1.1
                rw [hq.run] at hqr
                rw [hqr, hq.val, RV.tr_ext hx _ hq.lt]
              · exact g3 p hp
            · rcases List.mem_cons.1 hp with rfl | hp
              · exact .inl (List.mem_cons_self ..)
              · exact (g4 p hp).imp (List.mem_cons_of_mem _) id
            · rcases List.mem_cons.1 hp with rfl | hp
              · assumption
              · exact g5 p hp
          · cases hv
        · cases hv
theorem waitsB_spec {L : Oper} {i : Nat} (h : waitsB L i = true) : ∃ e ∈ L.after, Region.binds .any e = true ∧ e.on = i := by
  unfold waitsB at h
  rw [List.any_eq_true] at h
  obtain ⟨e, he, hb⟩ := h
  simp only [Bool.and_eq_true] at hb
  exact ⟨e, by simpa using he, hb.1, Nat.eq_of_beq_eq_true hb.2⟩
theorem set_on {listed : Array Bool} {i : Nat} (h : listed.getD i true = false) : (listed.setIfInBounds i true).getD i false = true := by
  have hlt : i < listed.size := by
    rcases Nat.lt_or_ge i listed.size with h1 | h1
    · exact h1
    · simp [h1] at h
  simp [hlt]
theorem ro_same {F F' : Fr} {e e' : Nv} {nx : Nat} (hx : Nv.ext nx e e') (hl : ∀ b, F.ro = some b → b < nx) (hr : F'.ro = F.ro) : F'.ro.map e'.at_ = F.ro.map e.at_ := by
  rw [hr]
  cases h : F.ro with
  | none => rfl
  | some b => simp only [Option.map_some, (hx b (hl b h)).1]
/-! ### operations that come up ahead of their turn -/
structure Rc where
  i : Nat
  o : Oper
  d : Tmp
  u : Value
  g : Option (Nat × Nat × RO × FK)
def Rc.blk (R : Rc) : Option Nat := R.g.map (·.1)
/-- it made the block g, of capacity cp, which is to hold ro -/
structure RcFl (Ty : Tr TypeInfo) (ops : Array Oper) (B : Nat → Prop) (w0 : World) (listed : Array Bool) (e : Nv) (h : Hp) (F : Fr) (w : World) (o : Oper) (u : Value) (g cp : Nat) (ro : RO) (k : FK) : Prop where
  fl : floatE Ty o = true
  ev : flE Ty (opd F) o = some (ro, k)
  lt : RO.lt h.nx ro
  ok : RO.okC e cp (w.heap[g]?) ro
  own : Own B w0 g
  free : ∀ j x, h.at? j = some x → e.at_ j ≠ g
  val : u = k.tr g cp
  seen : ∀ j oj, ops[j]? = some oj → listed.getD j true = false → ∀ d, oj.dst = some d → d ∉ o.looksAt ops
/-- it marked what y points at -/
structure RcMk (Ty : Tr TypeInfo) (ops : Array Oper) (a : Act) (o : Oper) (u : Value) (y : Tmp) (j : Nat) (oj : Oper) : Prop where
  mrk : markE Ty o = some y
  val : a.tmps[y]? = some u
  mem : ops[j]? = some oj
  dst : oj.dst = some y
  waits : ∃ ed ∈ o.after, Region.binds .any ed = true ∧ ed.on = j
def RcKind (Ty : Tr TypeInfo) (ops : Array Oper) (B : Nat → Prop) (w0 : World) (listed : Array Bool) (e : Nv) (h : Hp) (F : Fr) (a : Act) (w : World) (o : Oper) (u : Value) : Option (Nat × Nat × RO × FK) → Prop
  | some (g, cp, ro, k) => RcFl Ty ops B w0 listed e h F w o u g cp ro k
  | none => ∃ y j oj, RcMk Ty ops a o u y j oj
structure RcOk (Ty : Tr TypeInfo) (ops : Array Oper) (B : Nat → Prop) (w0 : World) (listed : Array Bool) (e : Nv) (h : Hp) (F : Fr) (a : Act) (w : World) (R : Rc) : Prop where
  mem : ops[R.i]? = some R.o
  out : listed.getD R.i true = false
  gd : R.o.guard = none
  dst : R.o.dst = some R.d
  val : a.tmps[R.d]? = some R.u
  kind : RcKind Ty ops B w0 listed e h F a w R.o R.u R.g
def NodupD (ops : Array Oper) : Prop := ∀ (i j : Nat) (oi oj : Oper) d, ops[i]? = some oi → ops[j]? = some oj → oi.dst = some d → oj.dst = some d → i = j
theorem nodupD_list : ∀ {l : List Oper}, nodupD l = true → ∀ (i j : Nat) (oi oj : Oper) d, l[i]? = some oi → l[j]? = some oj → oi.dst = some d → oj.dst = some d → i = j
  | [], _, i, j, oi, oj, d, hi, _, _, _ => by simp at hi
  | o :: l, h, i, j, oi, oj, d, hi, hj, hdi, hdj => by
    unfold nodupD at h
    rw [Bool.and_eq_true] at h
    have key : ∀ (k : Nat) (ok : Oper), l[k]? = some ok → o.dst = some d → ok.dst = some d → False := fun k ok hk h1 h2 => by
      have h3 := h.1
      rw [h1] at h3
      simp only [List.all_eq_true] at h3
      have h4 := h3 ok (List.mem_of_getElem? hk)
      simp [h2] at h4
    cases i with
    | zero =>
      cases j with
      | zero => rfl
      | succ j =>
        rw [List.getElem?_cons_zero] at hi
        rw [List.getElem?_cons_succ] at hj
        injection hi with hi; subst hi
        exact (key j oj hj hdi hdj).elim
    | succ i =>
      rw [List.getElem?_cons_succ] at hi
      cases j with
      | zero =>
        rw [List.getElem?_cons_zero] at hj
        injection hj with hj; subst hj
        exact (key i oi hi hdj hdi).elim
      | succ j =>
        rw [List.getElem?_cons_succ] at hj
        rw [nodupD_list h.2 i j oi oj d hi hj hdi hdj]
theorem nodupD_spec (h : nodupD ops.toList = true) : NodupD ops := fun i j oi oj d hi hj h1 h2 => nodupD_list h i j oi oj d (by simpa using hi) (by simpa using hj) h1 h2
/-- each waits for what has come up, and for those ahead of it -/
def Ord (listed : Array Bool) : List Rc → Prop
  | [] => True
  | R :: E => (∀ ed ∈ R.o.after, Region.binds .any ed = true → listed.getD ed.on false = true) ∧ Ord (listed.setIfInBounds R.i true) E
theorem Up.set2 {l m : Array Bool} (h : Up l m) (hs : l.size = m.size) (i : Nat) : Up (l.setIfInBounds i true) (m.setIfInBounds i true) := fun j hj => by
  by_cases hij : i = j
  · subst hij
    have : i < l.size := by
      rcases Nat.lt_or_ge i l.size with h1 | h1
      · exact h1
      · simp [h1] at hj
    simp [← hs, this]
  · rw [getD_set_false hij] at hj ⊢
    exact h j hj
theorem Ord.up : ∀ {E : List Rc} {l m : Array Bool}, Up l m → l.size = m.size → Ord l E → Ord m E
  | [], _, _, _, _, _ => trivial
  | R :: E, l, m, hu, hs, h => ⟨fun ed he hb => hu _ (h.1 ed he hb), Ord.up (hu.set2 hs R.i) (by simp [hs]) h.2⟩
theorem Ord.out : ∀ {E1 E2 : List Rc} {R : Rc} {l : Array Bool}, Ord l (E1 ++ R :: E2) → Ord (l.setIfInBounds R.i true) (E1 ++ E2)
  | [], _, _, _, h => h.2
  | X :: E1, E2, R, l, h => ⟨fun ed he hb => getD_set_true (h.1 ed he hb), by
    have := Ord.out h.2
    by_cases hxr : X.i = R.i
    · rw [hxr] at this ⊢; exact this
    · rw [Array.setIfInBounds_comm _ _ hxr] at this; exact this⟩
theorem Ord.snoc : ∀ {E : List Rc} {X : Rc} {l : Array Bool}, Ord l E → (∀ ed ∈ X.o.after, Region.binds .any ed = true → (lst (E.map (·.i)) l).getD ed.on false = true) → Ord l (E ++ [X])
  | [], _, _, _, h => ⟨h, trivial⟩
  | _ :: _, _, _, h, hx => ⟨h.1, Ord.snoc h.2 hx⟩
theorem lst_out : ∀ {is : List Nat} {l : Array Bool} {k : Nat}, (lst is l).getD k true = false → l.getD k true = false
  | [], _, _, h => h
  | _ :: _, _, _, h => out_set (lst_out h)
theorem loose_loud {o : Oper} (h : loose Ty o = true) : quietK Ty o = false := by
  unfold loose at h
  cases hf : floatE Ty o with
  | true =>
    obtain ⟨_, _, hforms⟩ := float_forms hf
    unfold quietK
    rcases hforms with ⟨t, ho⟩ | ⟨t, x, ho⟩ | ⟨t, n, ps, ho⟩ | ⟨s, d, x, el, ho, hs, hd⟩ <;> rw [ho]
    simp only [hs, hd]
  | false =>
    rw [hf] at h
    cases hm : markE Ty o with
    | none => rw [hm] at h; cases h
    | some y =>
      obtain ⟨_, _, s, d, el, ho, hd, _, _, el', hs⟩ := mark_form hm
      unfold quietK
      rw [ho]
      simp only [hs, hd]
theorem RcOk.loose {listed : Array Bool} {e : Nv} {h : Hp} {F : Fr} {a : Act} {w : World} {R : Rc} (r : RcOk Ty ops B w0 listed e h F a w R) : loose Ty R.o = true := by
  have hk := r.kind
  unfold Go.Proofs.YtlfljoeafpimpaaGreatDoor.loose
  cases hg : R.g with
  | some q =>
    obtain ⟨g, cp, ro, k⟩ := q
    rw [hg] at hk
    rw [hk.fl]; rfl
  | none =>
    rw [hg] at hk
    obtain ⟨y, j, oj, hm⟩ := hk
    rw [hm.mrk]
    cases floatE Ty R.o <;> rfl
/-- it lies there while others come up -/
theorem RcOk.adv {listed listed' : Array Bool} {e e1 : Nv} {h h1 : Hp} {F : Fr} {a a0 : Act} {w w1 : World} {R : Rc} (r : RcOk Ty ops B w0 listed e h F a w R) (f : RepF e h.nx F a0) (hno : NodupD ops)
    (hsh : Shut .any ops listed') (hRl : listed'.getD R.i false = true) {j : Nat} {o : Oper} (hj : ops[j]? = some o) (hjl : listed'.getD j true = false) (hjl0 : listed.getD j true = false) {d : Option Tmp} (hd : ∀ t, d = some t → t < F.nt) (hdo : ∀ t, d = some t → o.dst = some t) (v : RV) (u : Value)
    (hx : Nv.ext h.nx e e1) (hn : h.nx ≤ h1.nx) (hw : ∀ g, R.blk = some g → w1.heap[g]? = w.heap[g]?) (hfree : ∀ g, R.blk = some g → ∀ i x, h1.at? i = some x → e1.at_ i ≠ g) :
    RcOk Ty ops B w0 (listed.setIfInBounds j true) e1 h1 (F.put d v) (a.put d u) w1 R := by
  have hji : j ≠ R.i := fun hh => by
    rw [hh, Array.getD_eq_getD_getElem?] at hjl
    rw [Array.getD_eq_getD_getElem?] at hRl
    cases hq : listed'[R.i]? with
    | none => rw [hq] at hjl; cases hjl
    | some b => rw [hq] at hjl hRl; simp at hjl hRl; rw [hjl] at hRl; cases hRl
  refine ⟨r.mem, by rw [getD_set_ne true hji]; exact r.out, r.gd, r.dst, ?_, ?_⟩
  · rw [put_ne fun hh => hji (hno j R.i o R.o R.d hj r.mem (hdo _ hh) r.dst)]; exact r.val
  · have hk := r.kind
    cases hg : R.g with
    | some q =>
      obtain ⟨g, cp, ro, k⟩ := q
      rw [hg] at hk
      have hb : R.blk = some g := by unfold Rc.blk; rw [hg]; rfl
      refine ⟨hk.fl, ?_, RO.lt_mono hn hk.lt, ?_, hk.own, hfree g hb, hk.val, fun i oi hi hil => hk.seen i oi hi (out_set hil)⟩
      · rw [flE_put f hd fun t ht => hk.seen j o hj hjl0 t (hdo t ht)]; exact hk.ev
      · rw [hw g hb]; exact okC_ext hx hk.lt hk.ok
    | none =>
      rw [hg] at hk
      obtain ⟨y, jy, ojy, hm⟩ := hk
      refine ⟨y, jy, ojy, hm.mrk, ?_, hm.mem, hm.dst, hm.waits⟩
      obtain ⟨ed, he, hbd, hon⟩ := hm.waits
      have hjy : listed'.getD jy false = true := by rw [← hon]; exact hsh R.i R.o r.mem hRl ed he hbd
      rw [put_ne fun hh => ?_]; exact hm.val
      obtain rfl := hno j jy o ojy y hj hm.mem (hdo _ hh) hm.dst
      rw [Array.getD_eq_getD_getElem?] at hjy hjl
      cases hq : listed'[j]? with
      | none => rw [hq] at hjl; cases hjl
      | some b => rw [hq] at hjl hjy; simp at hjl hjy; rw [hjl] at hjy; cases hjy
abbrev ix (E : List Rc) : List Nat := E.map (·.i)
structure Inv (P : Program) (Ty : Tr TypeInfo) (ops : Array Oper) (B : Nat → Prop) (w0 : World) (listed : Array Bool) (D : List Dt) (E : List Rc) (e : Nv) (h : Hp) (F : Fr) (a a0 : Act) (w : World) : Prop where
  size : listed.size = ops.size
  rep : RepH B w0 e h w
  fr : RepF e h.nx F a0
  agr : Agr (E.map (·.d)) a a0
  cm : ∀ q ∈ D, CmI Ty ops listed a0 e h.nx q
  sx : SxC P Ty ops D (lst (ix E) listed) w
  rcs : ∀ R ∈ E, RcOk Ty ops B w0 listed e h F a w R
  nd : E.Pairwise fun R R' => R.i ≠ R'.i ∧ ∀ g g', R.blk = some g → R'.blk = some g' → g ≠ g'
  ord : Ord listed E
  nod : E ≠ [] → NodupD ops
  sh : Shut .any ops (lst (ix E) listed)
/-- what the plan's step says of itself -/
structure HeadI (Ty : Tr TypeInfo) (ops : Array Oper) (listed : Array Bool) (p : Nat) (o : Oper) (fl : List Nat) : Prop where
  mem : p ∈ Region.ready .any ops listed
  op : ops[p]? = some o
  loud : quietK Ty o = false
  ready : Region.ready .any ops (lst fl listed) = [p]
  rest : fl ≠ [] → (∀ k ∈ fl, flOk Ty ops listed fl k = true) ∧ unseen ops listed o = true ∧ NodupD ops
structure QuietI (Ty : Tr TypeInfo) (ops : Array Oper) (listed : Array Bool) (j : Nat) (o : Oper) (fl : List Nat) : Prop where
  mem : j ∈ Region.ready .any ops listed
  op : ops[j]? = some o
  quiet : quietK Ty o = true
  free : Region.free .any ops listed j = true
  unseen : unseenQ ops listed j o = true
  fl : fl = []
theorem headGo_spec {n : Nat} {listed : Array Bool} : ∀ {l : List Nat} {p : Nat} {o : Oper} {fl : List Nat}, headGo Ty ops n listed l = some (p, o, fl) → p ∈ l ∧ ops[p]? = some o ∧ headOk Ty ops listed p o fl = true
  | [], _, _, _, h => by cases h
  | i :: l, p, o, fl, h => by
    unfold headGo at h
    split at h
    · rename_i oi hi
      split at h
      · rename_i hk
        injection h with h; injection h with h1 h2; injection h2 with h2 h3; subst h1 h2 h3
        exact ⟨List.mem_cons_self .., hi, hk⟩
      · obtain ⟨h1, h2⟩ := headGo_spec h
        exact ⟨List.mem_cons_of_mem _ h1, h2⟩
    · obtain ⟨h1, h2⟩ := headGo_spec h
      exact ⟨List.mem_cons_of_mem _ h1, h2⟩
theorem planGo_nil {m : Nat} {listed : Array Bool} (h : planGo Ty ops m listed = some []) : Region.ready .any ops listed = [] := by
  cases m with
  | zero =>
    unfold planGo at h
    split at h
    · assumption
    · cases h
  | succ m =>
    unfold planGo at h
    split at h
    · assumption
    · split at h
      · split at h
        · obtain ⟨l, _, hl⟩ := some_map h; cases hl
        · cases h
      · split at h
        · split at h
          · obtain ⟨l, _, hl⟩ := some_map h; cases hl
          · cases h
        · split at h
          · obtain ⟨l, _, hl⟩ := some_map h; cases hl
          · cases h
theorem planGo_cons {m : Nat} {listed : Array Bool} {x : PlSt} {l : List PlSt} (h : planGo Ty ops m listed = some (x :: l)) :
    ∃ m', planGo Ty ops m' (listed.setIfInBounds x.2.1 true) = some l ∧ ((x.1 = true ∧ QuietI Ty ops listed x.2.1 x.2.2.1 x.2.2.2) ∨ (x.1 = false ∧ HeadI Ty ops listed x.2.1 x.2.2.1 x.2.2.2)) := by
  cases m with
  | zero =>
    unfold planGo at h
    split at h
    · cases h
    · cases h
  | succ m =>
    unfold planGo at h
    split at h
    · cases h
    · rename_i i rs hr
      split at h
      · rename_i j o hp
        obtain ⟨h1, h2, h3⟩ := pickQ_some hp
        split at h
        · rename_i hfree hun
          obtain ⟨l', hl', hh⟩ := some_map h
          injection hh with e1 e2; subst e1 e2
          exact ⟨m, hl', .inl ⟨rfl, by rw [hr]; exact h1, h2, h3, hfree, hun, rfl⟩⟩
        · cases h
      · rename_i hp
        split at h
        · split at h
          · rename_i o ho
            obtain ⟨l', hl', hh⟩ := some_map h
            injection hh with e1 e2; subst e1 e2
            exact ⟨m, hl', .inr ⟨rfl, by rw [hr]; exact List.mem_cons_self .., ho, pickQ_none hp (List.mem_cons_self ..) ho, hr, fun hne => (hne rfl).elim⟩⟩
          · cases h
        · split at h
          · rename_i p o fl hg
            obtain ⟨l', hl', hh⟩ := some_map h
            injection hh with e1 e2; subst e1 e2
            obtain ⟨h1, h2, h3⟩ := headGo_spec hg
            unfold headOk at h3
            simp only [Bool.and_eq_true, decide_eq_true_eq, List.all_eq_true] at h3
            exact ⟨m, hl', .inr ⟨rfl, by rw [hr]; exact h1, h2, pickQ_none hp h1 h2, h3.1, fun _ => ⟨h3.2.1, h3.2.2.2.1, nodupD_spec h3.2.2.2.2⟩⟩⟩
          · cases h
end
end Go.Proofs.YtlfljoeafpimpaaGreatDoor
