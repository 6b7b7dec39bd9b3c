/- The evaluator: a region whose order is drawn: whatever order is picked, it ends as the plan does. -/
import Derived.Test.YtlfljoeafpimpaaGreatDoorEwb
namespace Go.Proofs.YtlfljoeafpimpaaGreatDoor
open Go.RowKit

section
variable {P : Program} {Ty : Tr TypeInfo} {B : Nat → Prop} {w0 : World} {call : CallE} {ops : Array Oper} {Q : Exit → Act → World → Prop}
theorem RepF.agr {e : Nv} {nx : Nat} {F : Fr} {a a0 : Act} (f : RepF e nx F a0) (g : Agr [] a a0) : RepF e nx F a :=
  ⟨g.size.trans f.size, f.fullT, fun i v hi hv => ⟨(g.at_ i (by simp)).trans (f.tmp i v hi hv).1, (f.tmp i v hi hv).2⟩, g.defers.trans f.defers, f.dlt, f.rlt⟩
theorem on_off {l : Array Bool} {i : Nat} (h1 : l.getD i true = false) (h2 : l.getD i false = true) : False := by
  rw [Array.getD_eq_getD_getElem?] at h1 h2
  cases hq : l[i]? with
  | none => rw [hq] at h1; cases h1
  | some b => rw [hq] at h1 h2; simp at h1 h2; rw [h1] at h2; cases h2
theorem off_of {l : Array Bool} {i : Nat} (h1 : ¬ l.getD i true = true) : l.getD i true = false := by
  cases h : l.getD i true with
  | true => exact (h1 h).elim
  | false => rfl
theorem on_of {l : Array Bool} {i : Nat} (hs : i < l.size) (h : l.getD i true = true) : l.getD i false = true := by
  rw [Array.getD_eq_getD_getElem?] at h ⊢
  rw [Array.getElem?_eq_getElem hs] at h ⊢
  exact h
theorem fl_of {fl : List Nat} {l : Array Bool} {i : Nat} (h : (lst fl l).getD i true = true) (h0 : l.getD i true = false) : i ∈ fl := by
  rcases Classical.em (i ∈ fl) with hi | hi
  · exact hi
  · rw [lst_getD true fl l i hi, h0] at h; cases h
section
variable {listed : Array Bool} {D : List Dt} {E : List Rc} {e : Nv} {h : Hp} {F : Fr} {a a0 : Act} {w : World}
theorem Inv.on (I : Inv P Ty ops B w0 listed D E e h F a a0 w) {R : Rc} (hR : R ∈ E) : (lst (ix E) listed).getD R.i false = true :=
  lst_mem _ _ _ (List.mem_map.2 ⟨R, hR, rfl⟩) (by rw [I.size]; exact (Array.getElem?_eq_some_iff.1 (I.rcs R hR).mem).1)
theorem Inv.dmQ (I : Inv P Ty ops B w0 listed D E e h F a a0 w) {i : Nat} {o : Oper} (hun : unseenQ ops listed i o = true) : ∀ t ∈ E.map (·.d), t ∉ o.looksAt ops := fun t ht => by
  obtain ⟨R, hR, rfl⟩ := List.mem_map.1 ht
  have k := I.rcs R hR
  exact (unseenQ_spec hun R.i R.o k.mem k.out R.d k.dst).resolve_right fun h1 => by
    have := loose_noassign k.loose
    rw [h1.1] at this; cases this
theorem Inv.dm (I : Inv P Ty ops B w0 listed D E e h F a a0 w) {o : Oper} (hun : E ≠ [] → unseen ops listed o = true) : ∀ t ∈ E.map (·.d), t ∉ o.looksAt ops := fun t ht => by
  obtain ⟨R, hR, rfl⟩ := List.mem_map.1 ht
  have k := I.rcs R hR
  exact unseen_spec (hun (List.ne_nil_of_mem hR)) R.i R.o k.mem k.out R.d k.dst
theorem RcOk.free {R : Rc} (r : RcOk Ty ops B w0 listed e h F a w R) {g : Nat} (hg : R.blk = some g) : (∀ i x, h.at? i = some x → e.at_ i ≠ g) ∧ g < w.heap.size := by
  have hk := r.kind
  unfold Rc.blk at hg
  cases hq : R.g with
  | none => rw [hq] at hg; cases hg
  | some q =>
    obtain ⟨g', cp, ro, k⟩ := q
    rw [hq] at hg hk
    injection hg with hg
    subst hg
    obtain ⟨A, t, fr, hb, _⟩ := okC_cells hk.ok
    exact ⟨hk.free, (Array.getElem?_eq_some_iff.1 hb).1⟩
theorem Ord.inClo {clo : Array Bool} {p : Nat} (hr : Region.ready .any ops clo = [p]) (hcs : clo.size = ops.size) : ∀ {E : List Rc} {l : Array Bool}, Ord l E → Up l clo → l.size = clo.size → (∀ R ∈ E, R.i ≠ p ∧ ops[R.i]? = some R.o) → ∀ R ∈ E, clo.getD R.i true = true
  | [], _, _, _, _, _, R, hR => by cases hR
  | X :: E, l, ho, hu, hs, hE, R, hR => by
    have hX : clo.getD X.i true = true := by
      rcases Classical.em (clo.getD X.i true = true) with h1 | h1
      · exact h1
      · have : X.i ∈ Region.ready .any ops clo := mem_ready.2 ⟨off_of h1, X.o, (hE X (List.mem_cons_self ..)).2, fun ed he hb => hu _ (ho.1 ed he hb)⟩
        rw [hr] at this
        exact absurd (List.mem_singleton.1 this) (hE X (List.mem_cons_self ..)).1
    rcases List.mem_cons.1 hR with rfl | hR
    · exact hX
    · have hXs : X.i < clo.size := by rw [hcs]; exact (Array.getElem?_eq_some_iff.1 (hE X (List.mem_cons_self ..)).2).1
      refine Ord.inClo hr hcs ho.2 (fun j hj => ?_) (by simpa using hs) (fun R hR => hE R (List.mem_cons_of_mem _ hR)) R hR
      by_cases hij : X.i = j
      · subst hij; exact on_of hXs hX
      · rw [getD_set_false hij] at hj; exact hu j hj
end
/-- from here on it ends as the plan does -/
def Goal (P : Program) (Ty : Tr TypeInfo) (ops : Array Oper) (Q : Exit → Act → World → Prop) (B : Nat → Prop) (w0 : World) (call : CallE) (l : List PlSt) : Prop :=
  ∀ {m : Nat} {listed : Array Bool} {D : List Dt} {E : List Rc} {F F' : Fr} {e : Nv} {h h' : Hp} {a a0 : Act} {w : World} {n : Nat}, planGo Ty ops m listed = some l → Inv P Ty ops B w0 listed D E e h F a a0 w →
    evPlan Ty call ops.toList l (D.map Prod.fst) F h = some (F', h') →
    (∀ e' w' a', Nv.ext h.nx e e' → RepH B w0 e' h' w' → RepF e' h'.nx F' a' → h.nx ≤ h'.nx → F'.ro = F.ro → Q .normal a' w') →
    unl ops.size (lst (ix E) listed) ≤ n → wpG (F.ro.map e.at_) P .any ops Q (SxC P Ty ops D) n (lst (ix E) listed) a w
theorem goal_nil : Goal P Ty ops Q B w0 call [] := by
  intro m listed D E F F' e h h' a a0 w n hp I hv hQ hn
  have hr := planGo_nil hp
  replace hv : some (F, h) = some (F', h') := hv
  injection hv with hv
  injection hv with h1 h2; subst h1 h2
  have hE : E = [] := by
    cases E with
    | nil => rfl
    | cons R E =>
      have R0 := I.rcs R (List.mem_cons_self ..)
      have : R.i ∈ Region.ready .any ops listed := mem_ready.2 ⟨R0.out, R.o, R0.mem, I.ord.1⟩
      rw [hr] at this; cases this
  subst hE
  have f := I.fr.agr I.agr
  show wpG _ P .any ops Q _ n listed a w
  cases n with
  | zero => exact ⟨hr, hQ e w a (Nv.ext.refl _ _) I.rep f (Nat.le_refl _) rfl⟩
  | succ n => exact ⟨fun _ => hQ e w a (Nv.ext.refl _ _) I.rep f (Nat.le_refl _) rfl, by rw [hr]; simp⟩
section
variable {listed : Array Bool} {D : List Dt} {E : List Rc} {F F' : Fr} {e : Nv} {h h' : Hp} {a a0 : Act} {w : World} {n : Nat}
theorem quiet_case (S : Snd P Ty call) (hsel : Region.noSelect ops = true) (hnd : ∀ (j : Nat) (o : Oper) c, ops[j]? = some o → o.op ≠ .defer c) (hQp : ∀ c a w, ¬ Q (.panic c) a w)
    {l : List PlSt} (ih : Goal P Ty ops Q B w0 call l) {m j : Nat} {o : Oper} {fl : List Nat} (hp : planGo Ty ops m (listed.setIfInBounds j true) = some l) (q : QuietI Ty ops listed j o fl) (I : Inv P Ty ops B w0 listed D E e h F a a0 w)
    (hv : evPlan Ty call ops.toList ((true, j, o, fl) :: l) (D.map Prod.fst) F h = some (F', h'))
    (hQ : ∀ e' w' a', Nv.ext h.nx e e' → RepH B w0 e' h' w' → RepF e' h'.nx F' a' → h.nx ≤ h'.nx → F'.ro = F.ro → Q .normal a' w')
    (hn : unl ops.size (lst (ix E) listed) ≤ n) : wpG (F.ro.map e.at_) P .any ops Q (SxC P Ty ops D) n (lst (ix E) listed) a w := by
  obtain ⟨hjl, _, _, hall⟩ := mem_ready.1 q.mem
  have hjo := q.op
  have hjE : j ∉ ix E := fun hm => by
    obtain ⟨R, hR, hRi⟩ := List.mem_map.1 hm
    have k := I.rcs R hR
    have hRo : R.o = o := by have := k.mem; rw [hRi, hjo] at this; exact (Option.some.inj this).symm
    have := loose_loud k.loose
    rw [hRo, q.quiet] at this; cases this
  have hjl' : (lst (ix E) listed).getD j true = false := by rw [lst_getD true _ _ _ hjE]; exact hjl
  have hjs : j < ops.size := (Array.getElem?_eq_some_iff.1 hjo).1
  have hu := unl_set hjs hjl'
  obtain ⟨n, rfl⟩ : ∃ k, n = k + 1 := ⟨n - 1, by omega⟩
  have hjm' : j ∈ Region.ready .any ops (lst (ix E) listed) := by
    obtain ⟨_, o', ho', hall⟩ := mem_ready.1 q.mem
    exact mem_ready.2 ⟨hjl', o', ho', fun ed he hb => lst_up _ _ _ (hall ed he hb)⟩
  have hdm := I.dmQ q.unseen
  have hex := I.agr.exec (noSel hsel hjo) hdm
  have hwa := I.agr.wanted (ops := ops) hdm
  have hun := unseenQ_spec q.unseen
  have hna := quiet_noassign q.quiet
  have hnw : ∀ i, isAssign o = true → waitsB o i = false := fun i h1 => by rw [hna] at h1; cases h1
  have hsl := fun (k : Nat) (ok : Oper) cs b hk => noSel hsel (i := k) (o := ok) hk cs b
  have hfr : ∀ k ok, ops[k]? = some ok → k ≠ j → (lst (ix E) listed).getD k true = false → (∀ e ∈ ok.after, Region.binds .any e = true → e.on ≠ j) → o.apart ops ok = true :=
    fun k ok hk hkj hkl => Region.free_spec hjo q.free k ok hk hkj (lst_out hkl)
  have tail : ∀ {D' : List Dt} {v : RV}, (∀ t, o.dst = some t → t < F.nt) → RV.lt h.nx v → (∀ q ∈ D', CmI Ty ops (listed.setIfInBounds j true) (a0.put o.dst (RV.tr e v)) e h.nx q) → SxC P Ty ops D' ((lst (ix E) listed).setIfInBounds j true) w →
      evPlan Ty call ops.toList l (D'.map Prod.fst) (F.put o.dst v) h = some (F', h') → wpG (F.ro.map e.at_) P .any ops Q (SxC P Ty ops D') n ((lst (ix E) listed).setIfInBounds j true) (a.put o.dst (RV.tr e v)) w := by
    intro D' v hd hl hcm hsx hv
    rw [← lst_set, ← Fr.put_ro F o.dst v]
    refine ih hp (a0 := a0.put o.dst (RV.tr e v)) ⟨by simpa using I.size, I.rep, I.fr.put hd hl, I.agr.put _ _, hcm, by rw [lst_set]; exact hsx, fun R hR => ?_, I.nd, I.ord.up (Up.set _ _) (by simp), I.nod, by rw [lst_set]; exact I.sh.set hjm'⟩ hv
      (fun e2 w2 a2 hx2 r2 f2 hn2 hr2 => hQ e2 w2 a2 hx2 r2 f2 hn2 (hr2.trans (Fr.put_ro ..))) (by rw [lst_set]; omega)
    exact (I.rcs R hR).adv I.fr (I.nod (List.ne_nil_of_mem hR)) I.sh (I.on hR) hjo hjl' hjl hd (fun t ht => ht) v _ (Nv.ext.refl _ _) (Nat.le_refl _) (fun _ _ => rfl) fun g hg => ((I.rcs R hR).free hg).1
  replace hv : planStep Ty call ops.toList (true, j, o, fl) (evPlan Ty call ops.toList l) (D.map Prod.fst) F h = some (F', h') := hv
  unfold planStep at hv
  split at hv
  · rename_i hw _
    have hwant := wantE_run I.fr hw
    rw [Array.toArray_toList] at hwant
    unfold soloE at hv
    split at hv
    · rename_i v h1 hz
      obtain ⟨hqr, rfl⟩ := S.quiet I.rep I.fr q.quiet hz
      obtain ⟨hd, hv⟩ := putK_some hv
      have hB := SxC.blind (P := P) (Ty := Ty) (ops := ops) (D := (⟨j, o, v⟩, execOp a0.eval o, RV.tr e v) :: D) hjo q.quiet
      refine wpG_mono (S := SxC P Ty ops ((⟨j, o, v⟩, execOp a0.eval o, RV.tr e v) :: D)) _ _ _ _ (fun m w _ hs => hs.sub fun q hq => List.mem_cons_of_mem _ hq) ?_
      have hSS : SxC P Ty ops ((⟨j, o, v⟩, execOp a0.eval o, RV.tr e v) :: D) (lst (ix E) listed) w := fun q hq => by
        rcases List.mem_cons.1 hq with rfl | hq
        · exact .inr hqr.1
        · exact I.sx q hq
      refine wpG_first (v := RV.tr e v) hjo hnd hsl (fun c a w hc => (hQp c _ w hc).elim) hB n _ a w hfr hjm' I.sh (.inl ⟨hwa.trans hwant, fun m hm hms hmj w hs => ?_⟩) hSS ?_
      · rcases hs _ (List.mem_cons_self ..) with hw | hw
        · obtain ⟨k, ok, h1, _, h3, e', h4, h5, h6⟩ := hw
          have := hms k ok h1 h3 e' h4 h5
          rw [h6, hmj] at this
          cases this
        · rw [hex]; exact hw
      · refine tail hd hqr.2 (fun p hp => ?_) ((hB _ _).2 hSS) hv
        rcases List.mem_cons.1 hp with rfl | hp
        · exact ⟨hjo, q.quiet, execOp_put o (noSel hsel hjo) a0 o.dst _ (fun d hd => (hun j o hjo hjl d hd).resolve_right fun h1 => by rw [hna] at h1; cases h1.1), rfl, hqr.2, fun k ok hk hkl => hun k ok hk (out_set hkl)⟩
        · exact (I.cm p hp).put hsel hjo hjl (hnw _) (Nv.ext.refl _ _) (Nat.le_refl _) _
    · cases hv
  · rename_i hw _
    have hwant := wantE_run I.fr hw
    rw [Array.toArray_toList] at hwant
    obtain ⟨hd, hv⟩ := putK_some hv
    have hB := SxC.blind (P := P) (Ty := Ty) (ops := ops) (D := D) hjo q.quiet
    refine wpG_first hjo hnd hsl (v := undef) (fun c a w hc => (hQp c _ w hc).elim) hB n _ a w hfr hjm' I.sh (.inr ⟨hwa.trans hwant, rfl⟩) I.sx ?_
    exact tail (v := .lit undef) hd trivial (fun p hp => (I.cm p hp).put hsel hjo hjl (hnw _) (Nv.ext.refl _ _) (Nat.le_refl _) _) ((hB _ _).2 I.sx) hv
  · cases hv
theorem put_self {b : Act} {d : Tmp} {u : Value} (hu : b.tmps[d]? = some u) : b.put (some d) u = b := by
  show ({ b with tmps := b.tmps.setIfInBounds d u } : Act) = b
  have : b.tmps.setIfInBounds d u = b.tmps := by
    apply Array.ext_getElem?
    intro i
    by_cases hdi : d = i
    · subst hdi
      rw [Array.getElem?_setIfInBounds_self_of_lt (Array.getElem?_eq_some_iff.1 hu).1, hu]
    · rw [Array.getElem?_setIfInBounds_ne hdi]
  rw [this]
/-- it lies there while another one gets its name -/
theorem RcOk.adv2 {e1 : Nv} {h1 : Hp} {R : Rc} (r : RcOk Ty ops B w0 listed e h F a w R) (f : RepF e h.nx F a0) {j : Nat} {o : Oper} (hj : ops[j]? = some o) (hji : j ≠ R.i) (hjl0 : listed.getD j true = false) {d : Option Tmp} (hd : ∀ t, d = some t → t < F.nt)
    (hdo : ∀ t, d = some t → o.dst = some t) (v : RV) (hx : Nv.ext h.nx e e1) (hn : h.nx ≤ h1.nx) (hfree : ∀ g, R.blk = some g → ∀ i x, h1.at? i = some x → e1.at_ i ≠ g) :
    RcOk Ty ops B w0 (listed.setIfInBounds j true) e1 h1 (F.put d v) a w R := by
  refine ⟨r.mem, by rw [getD_set_ne true hji]; exact r.out, r.gd, r.dst, r.val, ?_⟩
  have hk := r.kind
  cases hg : R.g with
  | some q =>
    obtain ⟨g, cp, ro, k⟩ := q
    rw [hg] at hk
    have hb : R.blk = some g := by unfold Rc.blk; rw [hg]; rfl
    refine ⟨hk.fl, ?_, RO.lt_mono hn hk.lt, okC_ext hx hk.lt hk.ok, hk.own, hfree g hb, hk.val, fun i oi hi hil => hk.seen i oi hi (out_set hil)⟩
    rw [flE_put f hd fun t ht => hk.seen j o hj hjl0 t (hdo t ht)]; exact hk.ev
  | none =>
    rw [hg] at hk
    exact hk
/-- it lies there while another one comes up ahead of its turn -/
theorem RcOk.early {w1 : World} {R : Rc} {listed' : Array Bool} (r : RcOk Ty ops B w0 listed e h F a w R) (hno : NodupD ops) (hsh : Shut .any ops listed') (hRl : listed'.getD R.i false = true) {j : Nat} {o : Oper} (hj : ops[j]? = some o)
    (hjl : listed'.getD j true = false) {d : Tmp} (hd : o.dst = some d) (u : Value) (hok : ∀ g cp ro k, R.g = some (g, cp, ro, k) → RO.okC e cp (w.heap[g]?) ro → RO.okC e cp (w1.heap[g]?) ro) :
    RcOk Ty ops B w0 listed e h F (a.put (some d) u) w1 R := by
  have hji : j ≠ R.i := fun hh => on_off hjl (by rw [hh]; exact hRl)
  refine ⟨r.mem, r.out, r.gd, r.dst, ?_, ?_⟩
  · rw [put_ne fun hh => hji (hno j R.i o R.o R.d hj r.mem (hd.trans hh) r.dst)]; exact r.val
  · have hk := r.kind
    cases hg : R.g with
    | some q =>
      obtain ⟨g, cp, ro, k⟩ := q
      rw [hg] at hk
      exact ⟨hk.fl, hk.ev, hk.lt, hok g cp ro k hg hk.ok, hk.own, hk.free, hk.val, hk.seen⟩
    | none =>
      rw [hg] at hk
      obtain ⟨y, jy, ojy, hm⟩ := hk
      refine ⟨y, jy, ojy, hm.mrk, ?_, hm.mem, hm.dst, hm.waits⟩
      obtain ⟨ed, he, hbd, hon⟩ := hm.waits
      have hjy : listed'.getD jy false = true := by rw [← hon]; exact hsh R.i R.o r.mem hRl ed he hbd
      rw [put_ne fun hh => ?_]; exact hm.val
      obtain rfl := hno j jy o ojy y hj hm.mem (hd.trans hh) hm.dst
      exact on_off hjl hjy
theorem flRun_spec : ∀ {fl : List Nat}, flRun Ty call ops.toList F h fl = true → ∀ k ∈ fl, ∃ ok d, ops[k]? = some ok ∧ ok.dst = some d ∧ d < F.nt ∧ (floatE Ty ok = true → ∃ v h1, evOp Ty call F h ok = some (v, h1))
  | [], _, k, hk => by cases hk
  | i :: fl, hv, k, hk => by
    replace hv : (match ops.toList[i]? with
      | some o => match o.dst, floatE Ty o with
        | some d, true => match Nat.ble (d + 1) F.nt, evOp Ty call F h o with
          | true, some _ => flRun Ty call ops.toList F h fl
          | _, _ => false
        | some d, false => match Nat.ble (d + 1) F.nt with
          | true => flRun Ty call ops.toList F h fl
          | false => false
        | none, _ => false
      | none => false) = true := hv
    split at hv
    · rename_i o ho
      rw [Array.getElem?_toList] at ho
      split at hv
      · rename_i d hd hf
        split at hv
        · rename_i z hb hz
          rcases List.mem_cons.1 hk with rfl | hk
          · exact ⟨o, d, ho, hd, Nat.le_of_ble_eq_true hb, fun _ => ⟨z.1, z.2, hz⟩⟩
          · exact flRun_spec hv k hk
        · cases hv
      · rename_i d hd hf
        split at hv
        · rename_i hb
          rcases List.mem_cons.1 hk with rfl | hk
          · exact ⟨o, d, ho, hd, Nat.le_of_ble_eq_true hb, fun h1 => by rw [hf] at h1; cases h1⟩
          · exact flRun_spec hv k hk
        · cases hv
      · cases hv
    · cases hv
end
end
end Go.Proofs.YtlfljoeafpimpaaGreatDoor
