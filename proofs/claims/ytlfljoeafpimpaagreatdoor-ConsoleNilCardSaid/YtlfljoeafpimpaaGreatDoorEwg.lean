/- The evaluator: a region whose order is drawn: steps that do more than read. -/
import Derived.Test.YtlfljoeafpimpaaGreatDoorEwf
namespace Go.Proofs.YtlfljoeafpimpaaGreatDoor
open Go.RowKit

section
variable {P : Program} {Ty : Tr TypeInfo} {B : Nat → Prop} {w0 : World} {call : CallE} {ops : Array Oper} {Q : Exit → Act → World → Prop}
variable {listed : Array Bool} {D : List Dt} {E : List Rc} {F F' : Fr} {e : Nv} {h h' : Hp} {a a0 : Act} {w : World} {n : Nat}
/-- what is left of what was read, where i has come up -/
theorem sx_up {D' : List Dt} {i : Nat} {o : Oper} {l : Array Bool} (ho : ops[i]? = some o) (hq : quietK Ty o = false) (hl : l.getD i false = true) (hd : ∀ q ∈ D, q ∈ D' ∨ waitsB o q.1.i = true) : ∀ m w, Up l m → SxC P Ty ops D' m w → SxC P Ty ops D m w := fun m w hm hs q hq' => by
  rcases hd q hq' with h1 | h1
  · exact hs q h1
  · exact .inl ⟨i, o, ho, hq, hm i hl, waitsB_spec h1⟩
theorem name_tail (S : Snd P Ty call) (hsel : Region.noSelect ops = true) {l : List PlSt} (ih : Goal P Ty ops Q B w0 call l) {m : Nat} {E1 E2 : List Rc} {R : Rc} (hp : planGo Ty ops m (listed.setIfInBounds R.i true) = some l) (hq : quietK Ty R.o = false)
    (I : Inv P Ty ops B w0 listed D (E1 ++ R :: E2) e h F a a0 w) {e1 : Nv} {h1 : Hp} {v : RV} (rep1 : RepH B w0 e1 h1 w) (hx : Nv.ext h.nx e e1) (hn1 : h.nx ≤ h1.nx) (hl : RV.lt h1.nx v) (htr : RV.tr e1 v = R.u)
    (hfree : ∀ R' ∈ E1 ++ E2, ∀ g, R'.blk = some g → ∀ i x, h1.at? i = some x → e1.at_ i ≠ g) {C' : List Cm} (hC' : recheck (evOp Ty call) F h1 R.o (D.map Prod.fst) = some C')
    (hv : putK (evPlan Ty call ops.toList l C') F R.o.dst v h1 = some (F', h'))
    (hQ : ∀ e' w' a', Nv.ext h.nx e e' → RepH B w0 e' h' w' → RepF e' h'.nx F' a' → h.nx ≤ h'.nx → F'.ro = F.ro → Q .normal a' w')
    (hn : unl ops.size (lst (ix (E1 ++ R :: E2)) listed) ≤ n) : wpG (F.ro.map e.at_) P .any ops Q (SxC P Ty ops D) n (lst (ix (E1 ++ R :: E2)) listed) a w := by
  obtain ⟨hd, hv⟩ := putK_some hv
  have hRm : R ∈ E1 ++ R :: E2 := List.mem_append_right _ (List.mem_cons_self ..)
  have k := I.rcs R hRm
  have f1 := I.fr.ext hx hn1
  obtain ⟨D', g1, g2, g3, g4, g5⟩ := recheck_run S rep1 f1 hx I.cm hC'
  refine wpG_mono (S := SxC P Ty ops D') n _ a w (sx_up k.mem hq (I.on hRm) g4) ?_
  have hll : lst (ix (E1 ++ R :: E2)) listed = lst (ix (E1 ++ E2)) (listed.setIfInBounds R.i true) := by
    show lst ((E1 ++ R :: E2).map (·.i)) listed = lst ((E1 ++ E2).map (·.i)) _
    rw [List.map_append, List.map_cons, List.map_append]
    exact lst_mid _ _ _ _
  have hsub : ∀ X ∈ E1 ++ E2, X ∈ E1 ++ R :: E2 := fun X hX => by
    rcases List.mem_append.1 hX with h2 | h2
    · exact List.mem_append_left _ h2
    · exact List.mem_append_right _ (List.mem_cons_of_mem _ h2)
  have hnd := I.nd
  have hRne : ∀ X ∈ E1 ++ E2, R.i ≠ X.i := fun X hX => by
    rw [List.pairwise_append] at hnd
    rcases List.mem_append.1 hX with h2 | h2
    · exact fun hh => (hnd.2.2 X h2 R (List.mem_cons_self ..)).1 hh.symm
    · exact ((List.pairwise_cons.1 hnd.2.1).1 X h2).1
  rw [hll, ← ro_same (F' := F.put R.o.dst v) hx I.fr.rlt (Fr.put_ro ..)]
  subst g1
  refine ih hp (a0 := a0.put R.o.dst (RV.tr e1 v)) ⟨by simpa using I.size, rep1, f1.put hd hl, ?_, fun q hq' => (I.cm q (g2 q hq')).put hsel k.mem k.out (fun _ => g5 q hq') hx hn1 _, fun q hq' => .inr (g3 q hq'), fun X hX => ?_, ?_, I.ord.out, fun hne => I.nod (fun hh => by simp at hh), by rw [← hll]; exact I.sh⟩ hv
    (fun e2 w2 a2 hx2 r2 f2 hn2 hr2 => hQ e2 w2 a2 (hx.trans hx2 hn1) r2 f2 (Nat.le_trans hn1 hn2) (hr2.trans (Fr.put_ro ..))) (by rw [← hll]; exact hn)
  · rw [k.dst, htr]
    refine I.agr.named k.val fun t ht => ?_
    rw [List.map_append, List.map_cons] at ht
    rw [List.map_append]
    rcases List.mem_append.1 ht with h2 | h2
    · exact .inr (List.mem_append_left _ h2)
    · rcases List.mem_cons.1 h2 with h2 | h2
      · exact .inl h2
      · exact .inr (List.mem_append_right _ h2)
  · exact (I.rcs X (hsub X hX)).adv2 I.fr k.mem (hRne X hX) k.out hd (fun t ht => ht) v hx hn1 (hfree X hX)
  · exact hnd.sublist (List.Sublist.append (List.Sublist.refl _) (List.sublist_cons_self _ _))
/-- its turn has come: what came up ahead gets its name -/
theorem name_case (S : Snd P Ty call) (hsel : Region.noSelect ops = true) {l : List PlSt} (ih : Goal P Ty ops Q B w0 call l) {m p : Nat} {o : Oper} {fl : List Nat} (hp : planGo Ty ops m (listed.setIfInBounds p true) = some l) (q : HeadI Ty ops listed p o fl)
    (I : Inv P Ty ops B w0 listed D E e h F a a0 w) (hpE : p ∈ ix E) (hv : evPlan Ty call ops.toList ((false, p, o, fl) :: l) (D.map Prod.fst) F h = some (F', h'))
    (hQ : ∀ e' w' a', Nv.ext h.nx e e' → RepH B w0 e' h' w' → RepF e' h'.nx F' a' → h.nx ≤ h'.nx → F'.ro = F.ro → Q .normal a' w')
    (hn : unl ops.size (lst (ix E) listed) ≤ n) : wpG (F.ro.map e.at_) P .any ops Q (SxC P Ty ops D) n (lst (ix E) listed) a w := by
  obtain ⟨R, hR, rfl⟩ := List.mem_map.1 hpE
  have k := I.rcs R hR
  obtain rfl : R.o = o := by have := k.mem; rw [q.op] at this; exact (Option.some.inj this).symm
  obtain ⟨E1, E2, rfl⟩ := List.append_of_mem hR
  have hw : wantE ops.toList F R.o = some true := by unfold wantE; rw [k.gd]
  replace hv : planStep Ty call ops.toList (false, R.i, R.o, fl) (evPlan Ty call ops.toList l) (D.map Prod.fst) F h = some (F', h') := hv
  unfold planStep at hv
  rw [hw] at hv
  split at hv
  · unfold soloE at hv
    split at hv
    · rename_i v h1 hz
      split at hv
      · rename_i hb; cases hb
      · split at hv
        · rename_i C' hC'
          have hk := k.kind
          cases hg : R.g with
          | some z =>
            obtain ⟨g, cp, ro, kk⟩ := z
            rw [hg] at hk
            obtain ⟨ro', k', hf, rfl, rfl, hroom⟩ := flE_spec hk.fl hz
            rw [hk.ev] at hf
            injection hf with hf
            injection hf with e1 e2; subst e1 e2
            have hx := Nv.put_ext e h.nx g cp
            have hb : R.blk = some g := by unfold Rc.blk; rw [hg]; rfl
            refine name_tail S hsel ih hp q.loud I (I.rep.name g cp hroom hk.own hk.free (ok_of (by simp [Nv.put]) (okC_ext hx hk.lt hk.ok)) (RO.lt_mono (Nat.le_succ _) hk.lt)) hx (Nat.le_succ _) (FK.val_lt _ _) ?_ ?_ hC' hv hQ hn
            · rw [FK.val_tr, hk.val]; simp [Nv.put]
            · intro X hX g' hg' i x hi
              have hnd := I.nd
              rw [List.pairwise_append] at hnd
              by_cases hin : h.nx = i
              · subst hin
                have : (e.put h.nx g cp).at_ h.nx = g := by simp [Nv.put]
                rw [this]
                rcases List.mem_append.1 hX with h2 | h2
                · exact fun hh => (hnd.2.2 X h2 R (List.mem_cons_self ..)).2 g' g hg' hb hh.symm
                · exact ((List.pairwise_cons.1 hnd.2.1).1 X h2).2 g g' hb hg'
              · rw [add_other ro hroom hin] at hi
                have : (e.put h.nx g cp).at_ i = e.at_ i := by simp [Nv.put, Ne.symm hin]
                rw [this]
                refine ((I.rcs X ?_).free hg').1 i x hi
                rcases List.mem_append.1 hX with h2 | h2
                · exact List.mem_append_left _ h2
                · exact List.mem_append_right _ (List.mem_cons_of_mem _ h2)
          | none =>
            rw [hg] at hk
            obtain ⟨y, j, oj, hm⟩ := hk
            obtain ⟨hy, i, x, hi, rfl⟩ := mark_spec hm.mrk hz
            have hxm : ∀ X ∈ E1 ++ E2, X ∈ E1 ++ R :: E2 := fun X hX => by
              rcases List.mem_append.1 hX with h2 | h2
              · exact List.mem_append_left _ h2
              · exact List.mem_append_right _ (List.mem_cons_of_mem _ h2)
            obtain ⟨he, hl⟩ := opd_run I.fr hy
            have hyd : y ∉ (E1 ++ R :: E2).map (·.d) := fun hyd => by
              obtain ⟨X, hX, hXd⟩ := List.mem_map.1 hyd
              have kx := I.rcs X hX
              have hij : X.i = j := I.nod (List.ne_nil_of_mem hR) X.i j X.o oj y kx.mem hm.mem (by rw [kx.dst, hXd]) hm.dst
              obtain ⟨ed, hed, hbd, hon⟩ := hm.waits
              obtain ⟨_, o', ho', hall⟩ := mem_ready.1 q.mem
              rw [q.op] at ho'
              injection ho' with ho'; subst ho'
              have := hall ed hed hbd
              rw [hon, ← hij] at this
              exact on_off kx.out this
            refine name_tail S hsel ih hp q.loud I (I.rep.putSame hi) (Nv.ext.refl _ _) (Nat.le_refl _) hl ?_ ?_ hC' hv hQ hn
            · have h2 := I.agr.at_ y hyd
              rw [hm.val] at h2
              simp only [Act.eval, Array.getD_eq_getD_getElem?, ← h2, Option.getD_some] at he
              exact he.symm
            · intro X hX g' hg' i' x' hi'
              refine ((I.rcs X (hxm X hX)).free hg').1 i' x' ?_
              have hsm := at_small hi
              by_cases hii : i = i'
              · subst hii
                rw [put_same x hsm] at hi'
                rw [hi]; exact hi'
              · rw [put_other x hsm hii] at hi'; exact hi'
        · cases hv
    · cases hv
  · rename_i hb _; cases hb
  · cases hv
/-- what was read is read so still, where nothing that has a name has turned -/
theorem early_sx (S : Snd P Ty call) (I : Inv P Ty ops B w0 listed D E e h F a a0 w) {w1 : World} (rep1 : RepH B w0 e h w1) {o : Oper} {C0 : List Cm} (hC : recheck (evOp Ty call) F h { o with after := #[] } (D.map Prod.fst) = some C0) (m : Array Bool) : SxC P Ty ops D m w1 := by
  obtain ⟨D', _, _, g3, g4, _⟩ := recheck_run S rep1 I.fr (Nv.ext.refl _ _) I.cm hC
  intro q hq
  rcases g4 q hq with h1 | h1
  · exact .inr (g3 q h1)
  · simp [waitsB] at h1
theorem headE_spec {o : Oper} {fl : List Nat} {C : List Cm} (hh : headE Ty call ops.toList o fl C F h = true) (hne : fl ≠ []) : flRun Ty call ops.toList F h fl = true ∧ ∃ C0, recheck (evOp Ty call) F h { o with after := #[] } C = some C0 := by
  unfold headE at hh
  split at hh
  · exact (hne rfl).elim
  · split at hh
    · rename_i C0 h1 h2
      exact ⟨h1, C0, h2⟩
    · cases hh
theorem turn_case (S : Snd P Ty call) (hsel : Region.noSelect ops = true) {l : List PlSt} (ih : Goal P Ty ops Q B w0 call l) {m p : Nat} {o : Oper} {fl : List Nat} (hp : planGo Ty ops m (listed.setIfInBounds p true) = some l) (q : HeadI Ty ops listed p o fl)
    (hv : evPlan Ty call ops.toList ((false, p, o, fl) :: l) (D.map Prod.fst) F h = some (F', h'))
    (hQ : ∀ e' w' a', Nv.ext h.nx e e' → RepH B w0 e' h' w' → RepF e' h'.nx F' a' → h.nx ≤ h'.nx → F'.ro = F.ro → Q .normal a' w') :
    ∀ (n : Nat) {E : List Rc} {a : Act} {w : World}, Inv P Ty ops B w0 listed D E e h F a a0 w → p ∉ ix E → unl ops.size (lst (ix E) listed) ≤ n → wpG (F.ro.map e.at_) P .any ops Q (SxC P Ty ops D) n (lst (ix E) listed) a w := by
  replace hv : planStep Ty call ops.toList (false, p, o, fl) (evPlan Ty call ops.toList l) (D.map Prod.fst) F h = some (F', h') := hv
  have hhead : headE Ty call ops.toList o fl (D.map Prod.fst) F h = true := by
    unfold planStep at hv
    split at hv
    · rename_i h1; exact h1
    · rename_i h1; exact h1
    · cases hv
  have hpo := q.op
  obtain ⟨hpl, _⟩ := mem_ready.1 q.mem
  have hps : p < ops.size := (Array.getElem?_eq_some_iff.1 hpo).1
  intro n
  induction n with
  | zero =>
    intro E a w I hpE hn
    have := unl_set hps (l := lst (ix E) listed) (by rw [lst_getD true _ _ _ hpE]; exact hpl)
    omega
  | succ n IH =>
    intro E a w I hpE hn
    have hpl' : (lst (ix E) listed).getD p true = false := by rw [lst_getD true _ _ _ hpE]; exact hpl
    have hpm' : p ∈ Region.ready .any ops (lst (ix E) listed) := by
      obtain ⟨_, o', ho', hall⟩ := mem_ready.1 q.mem
      exact mem_ready.2 ⟨hpl', o', ho', fun ed he hb => lst_up _ _ _ (hall ed he hb)⟩
    have hcs : (lst fl listed).size = ops.size := by rw [lst_size]; exact I.size
    have hclo : ∀ R ∈ E, (lst fl listed).getD R.i true = true := Ord.inClo q.ready hcs I.ord (lst_up _ _) (lst_size _ _).symm fun R hR => ⟨fun hh => hpE (List.mem_map.2 ⟨R, hR, hh⟩), (I.rcs R hR).mem⟩
    have hEfl : E ≠ [] → fl ≠ [] := fun hne hfl => by
      obtain ⟨R, hR⟩ := List.exists_mem_of_ne_nil E hne
      have := fl_of (hclo R hR) (I.rcs R hR).out
      rw [hfl] at this; cases this
    refine ⟨fun h0 => (by rw [h0] at hpm'; cases hpm'), fun i hi => ?_⟩
    by_cases hip : i = p
    · subst hip
      have hdm := I.dm (o := o) fun hne => (q.rest (hEfl hne)).2.1
      have hex := I.agr.exec (noSel hsel hpo) hdm
      have hwa := I.agr.wanted (ops := ops) hdm
      have hul := unl_set hps hpl'
      unfold wpOpIn
      simp only [hpo]
      unfold planStep at hv
      split at hv
      · rename_i hw _
        have hwant := wantE_run I.fr hw
        rw [Array.toArray_toList] at hwant
        rw [if_pos (hwa.trans hwant)]
        unfold soloE at hv
        split at hv
        · rename_i v h1 hz
          split at hv
          · rename_i hb; cases hb
          · split at hv
            · rename_i C' hC'
              obtain ⟨hd, hv⟩ := putK_some hv
              refine S.op I.rep.self I.fr hz a hex _ _ fun e1 w1 hx r1 hn1 hl => ?_
              have rep1 := I.rep.frame r1
              have f1 := I.fr.ext hx hn1
              obtain ⟨D', g1, g2, g3, g4, g5⟩ := recheck_run S rep1 f1 hx I.cm hC'
              have hmono := sx_up (P := P) (D := D) (D' := D') hpo q.loud (set_on hpl') g4
              have hS' : SxC P Ty ops D' ((lst (ix E) listed).setIfInBounds i true) w1 := fun q hq => .inr (g3 q hq)
              refine ⟨hmono _ _ (Up.refl _) hS', wpG_mono n _ _ _ hmono ?_⟩
              subst g1
              rw [← lst_set, ← ro_same (F' := F.put o.dst v) hx I.fr.rlt (Fr.put_ro ..)]
              refine ih hp (a0 := a0.put o.dst (RV.tr e1 v)) ⟨by simpa using I.size, rep1, f1.put hd hl, I.agr.put _ _, fun q hq => (I.cm q (g2 q hq)).put hsel hpo hpl (fun _ => g5 q hq) hx hn1 _, by rw [lst_set]; exact hS', fun R hR => ?_, I.nd, I.ord.up (Up.set _ _) (by simp), I.nod, by rw [lst_set]; exact I.sh.set hpm'⟩ hv
                (fun e2 w2 a2 hx2 r2 f2 hn2 hr2 => hQ e2 w2 a2 (hx.trans hx2 hn1) r2 f2 (Nat.le_trans hn1 hn2) (hr2.trans (Fr.put_ro ..))) (by rw [lst_set]; omega)
              have kf := fun g hg => (I.rcs R hR).free (g := g) hg
              refine (I.rcs R hR).adv I.fr (I.nod (List.ne_nil_of_mem hR)) I.sh (I.on hR) hpo hpl' hpl hd (fun t ht => ht) v _ hx hn1 (fun g hg => r1.below.block g (kf g hg).2 fun ⟨j, x, hj, hjg⟩ => (kf g hg).1 j x hj hjg) fun g hg j x hj hjg => ?_
              obtain ⟨j', x', hj', hjg'⟩ := (r1.obj j x hj).2.1 (by rw [hjg]; exact (kf g hg).2)
              exact (kf g hg).1 j' x' hj' (hjg'.trans hjg)
            · cases hv
        · cases hv
      · rename_i hw _
        have hwant := wantE_run I.fr hw
        rw [Array.toArray_toList] at hwant
        rw [if_neg (by rw [hwa, hwant]; exact Bool.false_ne_true)]
        obtain ⟨hd, hv⟩ := putK_some hv
        have hmap : (D.filter fun q => !waitsB o q.1.i).map Prod.fst = (D.map Prod.fst).filter fun c => !waitsB o c.i := by
          rw [List.filter_map]; rfl
        have hS' : SxC P Ty ops (D.filter fun q => !waitsB o q.1.i) ((lst (ix E) listed).setIfInBounds i true) w := fun q hq => (I.sx q (List.mem_filter.1 hq).1).imp (fun h => h.up (Up.set _ _)) id
        have hmono := sx_up (P := P) (D := D) (D' := D.filter fun q => !waitsB o q.1.i) hpo q.loud (set_on hpl') fun q hq => by
          cases hb : waitsB o q.1.i with
          | true => exact .inr rfl
          | false => exact .inl (List.mem_filter.2 ⟨hq, by rw [hb]; rfl⟩)
        refine ⟨fun _ _ => trivial, hmono _ _ (Up.refl _) hS', wpG_mono n _ _ _ hmono ?_⟩
        rw [← lst_set, ← Fr.put_ro F o.dst (.lit undef)]
        refine ih hp (a0 := a0.put o.dst undef) ⟨by simpa using I.size, I.rep, I.fr.put (v := .lit undef) hd trivial, I.agr.put _ _, fun q hq => (I.cm q (List.mem_filter.1 hq).1).put hsel hpo hpl (fun _ => by simpa using (List.mem_filter.1 hq).2) (Nv.ext.refl _ _) (Nat.le_refl _) _, by rw [lst_set]; exact hS', fun R hR => ?_, I.nd, I.ord.up (Up.set _ _) (by simp), I.nod, by rw [lst_set]; exact I.sh.set hpm'⟩ (by rw [hmap]; exact hv)
          (fun e2 w2 a2 hx2 r2 f2 hn2 hr2 => hQ e2 w2 a2 hx2 r2 f2 hn2 (hr2.trans (Fr.put_ro ..))) (by rw [lst_set]; omega)
        exact (I.rcs R hR).adv I.fr (I.nod (List.ne_nil_of_mem hR)) I.sh (I.on hR) hpo hpl' hpl hd (fun t ht => ht) (.lit undef) _ (Nv.ext.refl _ _) (Nat.le_refl _) (fun _ _ => rfl) fun g hg => ((I.rcs R hR).free hg).1
      · cases hv
    · obtain ⟨hil', oi, hio, hall⟩ := mem_ready.1 hi
      have hil := lst_out hil'
      have hul := unl_set (Array.getElem?_eq_some_iff.1 hio).1 hil'
      have hupc : Up (lst (ix E) listed) (lst fl listed) := by
        intro j hj
        rcases Classical.em (j ∈ ix E) with hjE | hjE
        · obtain ⟨R, hR, rfl⟩ := List.mem_map.1 hjE
          exact on_of (by rw [hcs]; exact (Array.getElem?_eq_some_iff.1 (I.rcs R hR).mem).1) (hclo R hR)
        · rw [lst_getD false _ _ _ hjE] at hj
          exact lst_up _ _ _ hj
      have hic : (lst fl listed).getD i true = true := by
        rcases Classical.em ((lst fl listed).getD i true = true) with h1 | h1
        · exact h1
        · have : i ∈ Region.ready .any ops (lst fl listed) := mem_ready.2 ⟨off_of h1, oi, hio, fun ed he hb => hupc _ (hall ed he hb)⟩
          rw [q.ready] at this
          exact absurd (List.mem_singleton.1 this) hip
      have hifl := fl_of hic hil
      have hne : fl ≠ [] := List.ne_nil_of_mem hifl
      obtain ⟨hflk, _, hno⟩ := q.rest hne
      obtain ⟨hrun, C0, hC0⟩ := headE_spec hhead hne
      obtain ⟨oi', d, hio', hdst, hdn, hfloat⟩ := flRun_spec hrun i hifl
      rw [hio] at hio'
      injection hio' with hio'; subst hio'
      have hok := hflk i hifl
      unfold flOk at hok
      rw [hio] at hok
      simp only [Bool.and_eq_true] at hok
      have hasz : d < a.tmps.size := by rw [I.agr.size, I.fr.size]; exact hdn
      unfold wpOpIn
      simp only [hio]
      have hout : ∀ R ∈ E, i ≠ R.i := fun R hR hh => on_off hil' (by rw [hh]; exact I.on hR)
      -- the invariant with one more
      have next : ∀ {u : Value} {w1 : World} {gg : Option (Nat × Nat × RO × FK)}, oi.guard = none → RepH B w0 e h w1 → (∀ R ∈ E, ∀ g cp ro k, R.g = some (g, cp, ro, k) → RO.okC e cp (w.heap[g]?) ro → RO.okC e cp (w1.heap[g]?) ro) →
          RcKind Ty ops B w0 listed e h F (a.put (some d) u) w1 oi u gg → (∀ R ∈ E, ∀ g g', R.blk = some g → gg.map (·.1) = some g' → g ≠ g') →
          SxC P Ty ops D ((lst (ix E) listed).setIfInBounds i true) w1 ∧ wpG (F.ro.map e.at_) P .any ops Q (SxC P Ty ops D) n ((lst (ix E) listed).setIfInBounds i true) (a.put oi.dst u) w1 := by
        intro u w1 gg hgd rep1 hkeep hkind hnd
        have hll : (lst (ix E) listed).setIfInBounds i true = lst (ix (E ++ [(⟨i, oi, d, u, gg⟩ : Rc)])) listed := by
          show _ = lst ((E ++ [(⟨i, oi, d, u, gg⟩ : Rc)]).map (·.i)) listed
          rw [List.map_append, lst_app]; rfl
        have hsx := early_sx S I rep1 hC0 ((lst (ix E) listed).setIfInBounds i true)
        refine ⟨hsx, ?_⟩
        rw [hdst, hll]
        refine IH ⟨I.size, rep1, I.fr, ?_, I.cm, by rw [← hll]; exact hsx, fun R hR => ?_, ?_, I.ord.snoc hall, fun _ => hno, by rw [← hll]; exact I.sh.set hi⟩ ?_ (by rw [← hll]; omega)
        · rw [List.map_append]; exact I.agr.early d u
        · rcases List.mem_append.1 hR with hR | hR
          · exact (I.rcs R hR).early hno I.sh (I.on hR) hio hil' hdst u (hkeep R hR)
          · obtain rfl := List.mem_singleton.1 hR
            exact ⟨hio, hil, hgd, hdst, put_at hasz, hkind⟩
        · refine List.pairwise_append.2 ⟨I.nd, List.pairwise_singleton _ _, fun R hR X hX => ?_⟩
          obtain rfl := List.mem_singleton.1 hX
          exact ⟨(hout R hR).symm, fun g g' hg hg' => hnd R hR g g' hg hg'⟩
        · intro hpm
          rw [show ix (E ++ [(⟨i, oi, d, u, gg⟩ : Rc)]) = ix E ++ [i] from List.map_append] at hpm
          rcases List.mem_append.1 hpm with h1 | h1
          · exact hpE h1
          · exact hip (List.mem_singleton.1 h1).symm
      cases hf : floatE Ty oi with
      | true =>
        have hun : unseen ops listed oi = true := by have := hok.2; rw [hf] at this; exact this
        obtain ⟨hgd, _, _⟩ := float_forms hf
        obtain ⟨v, h1, hz⟩ := hfloat hf
        have hwt : Region.wanted oi (yielded ops a.tmps) = true := by simp [Region.wanted, hgd]
        rw [if_pos hwt]
        have hex := I.agr.exec (noSel hsel hio) (I.dm (o := oi) fun _ => hun)
        refine S.op I.rep.self I.fr hz a hex _ _ fun e1 w1 hx r1 hn1 hl1 => ?_
        obtain ⟨ro, k, hfl, rfl, rfl, hroom⟩ := flE_spec hf hz
        have hfr := I.rep.fresh hroom r1 hx
        obtain ⟨hlt, cs, t, hsg⟩ := flE_lt I.fr hfl
        have hobj := r1.obj h.nx ro (add_same ro hroom)
        have hoth : ∀ g, g < w.heap.size → (∀ j x, h.at? j = some x → e.at_ j ≠ g) → w1.heap[g]? = w.heap[g]? := fun g hg hfree => r1.below.block g hg fun ⟨j, x, hj, hjg⟩ => hfree j x hj hjg
        have htr : RV.tr e1 (k.val h.nx) = k.tr (e1.at_ h.nx) (e1.cap h.nx) := FK.val_tr ..
        refine next (u := RV.tr e1 (k.val h.nx)) (gg := some (e1.at_ h.nx, e1.cap h.nx, ro, k)) hgd (I.rep.undo hroom r1 hx) (fun R hR g cp ro' k' hg hk => ?_) ?_ (fun R hR g g' hg hg' => ?_)
        · have hb : R.blk = some g := by unfold Rc.blk; rw [hg]; rfl
          have kf := (I.rcs R hR).free hb
          rw [hoth g kf.2 kf.1]; exact hk
        · refine ⟨hf, hfl, hlt, okC_ext hx.symm hlt (okC_of hsg hobj.2.2.1), fun hlt' => ?_, fun j x hj hjg => ?_, htr, fun j oj hj hjl => unseen_spec hun j oj hj hjl⟩
          · have := I.rep.below.size; omega
          · have := I.rep.live hj; omega
        · have kf := (I.rcs R hR).free hg
          have hg' : e1.at_ h.nx = g' := Option.some.inj hg'
          omega
      | false =>
        have hmk := hok.2
        rw [hf] at hmk
        simp only at hmk
        split at hmk
        · rename_i y hy
          obtain ⟨hgd, _, s, dd, el, ho, hdd, hel, hsd, _⟩ := mark_form hy
          rw [List.any_eq_true] at hmk
          obtain ⟨j, hjfl, hj⟩ := hmk
          unfold marksOf at hj
          split at hj
          · rename_i oj hoj
            simp only [Bool.and_eq_true, decide_eq_true_eq, List.any_eq_true] at hj
            obtain ⟨hjf, hjs, hjd, ed, hed, hbd, hon⟩ := hj
            have hon := Nat.eq_of_beq_eq_true hon
            have hed : ed ∈ oi.after := by simpa using hed
            have hjl' := hall ed hed hbd
            rw [hon] at hjl'
            have hjok := hflk j hjfl
            unfold flOk at hjok
            rw [hoj] at hjok
            simp only [Bool.and_eq_true, Bool.not_eq_true'] at hjok
            have hjE : j ∈ ix E := by
              rcases Classical.em (j ∈ ix E) with h1 | h1
              · exact h1
              · rw [lst_getD false _ _ _ h1] at hjl'
                exact (on_off hjok.1 hjl').elim
            obtain ⟨R, hR, hRi⟩ := List.mem_map.1 hjE
            have kR := I.rcs R hR
            obtain rfl : R.o = oj := by have := kR.mem; rw [hRi, hoj] at this; exact (Option.some.inj this).symm
            have hRd : R.d = y := by have := kR.dst; rw [hjd] at this; exact (Option.some.inj this).symm
            have hk := kR.kind
            cases hg : R.g with
            | none =>
              rw [hg] at hk
              obtain ⟨_, _, _, hm⟩ := hk
              rw [mark_float hm.mrk] at hjf; cases hjf
            | some z =>
              obtain ⟨g, cp, ro, k⟩ := z
              rw [hg] at hk
              obtain ⟨sn, sc, hu⟩ := slicy_tr hjs hk.ev g cp
              obtain ⟨A, t, fr, hblk, hfz, hclose⟩ := okC_cells hk.ok
              obtain ⟨fr', hfz', hmr⟩ := mark_run S.ty (n := sn) (c := sc) hdd hel hsd hblk hfz
              have hval := kR.val
              rw [hk.val, hu, hRd] at hval
              have hrunO : (execOp a.eval oi).run P w = .ok (.value (.slice (some ⟨g, 0, none⟩) sn sc)) { w with heap := w.heap.setIfInBounds g (.cells A t fr') } := by
                unfold execOp
                rw [ho]
                have hev : a.eval (.tmp y) = .slice (some ⟨g, 0, none⟩) sn sc := by
                  simp only [Act.eval, Array.getD_eq_getD_getElem?, hval, Option.getD_some]
                simp only [hev]
                exact run_value hmr
              have hwt : Region.wanted oi (yielded ops a.tmps) = true := by simp [Region.wanted, hgd]
              rw [if_pos hwt]
              refine run_wpIn hrunO (fun d hd => nomatch hd) ?_
              have hglt : g < w.heap.size := (Array.getElem?_eq_some_iff.1 hblk).1
              refine next (u := .slice (some ⟨g, 0, none⟩) sn sc) (gg := none) hgd (I.rep.other hk.own hk.free) (fun R' hR' g' cp' ro' k' hg' hk' => ?_) ?_ (fun R hR g g' hg hg' => by cases hg')
              · show RO.okC e cp' ((w.heap.setIfInBounds g (.cells A t fr'))[g']?) ro'
                by_cases hgg : g = g'
                · subst hgg
                  rw [Array.getElem?_setIfInBounds_self_of_lt hglt]
                  obtain ⟨A', t', fr2, hb2, _, hcl2⟩ := okC_cells hk'
                  rw [hblk] at hb2
                  injection hb2 with hb2
                  injection hb2 with z1 z2 z3; subst z1 z2
                  exact hcl2 fr' hfz'
                · rw [Array.getElem?_setIfInBounds_ne hgg]; exact hk'
              · refine ⟨y, j, R.o, hy, ?_, hoj, hjd, ed, hed, hbd, hon⟩
                have hdy : d ≠ y := fun hh => by
                  have := hno i j oi R.o y hio hoj (by rw [hdst, hh]) hjd
                  subst this
                  exact on_off hil' hjl'
                rw [put_ne fun hh => hdy (Option.some.inj hh)]
                exact hval
          · cases hj
        · cases hmk
theorem wpG_plan (S : Snd P Ty call) (hsel : Region.noSelect ops = true) (hnd : ∀ (j : Nat) (o : Oper) c, ops[j]? = some o → o.op ≠ .defer c) (hQp : ∀ c a w, ¬ Q (.panic c) a w) : ∀ l : List PlSt, Goal P Ty ops Q B w0 call l := by
  intro l
  induction l with
  | nil => exact goal_nil
  | cons x l ih =>
    intro m listed D E F F' e h h' a a0 w n hp I hv hQ hn
    obtain ⟨b, p, o, fl⟩ := x
    obtain ⟨m', hp', hq | hq⟩ := planGo_cons hp
    · obtain ⟨hb, hq⟩ := hq
      replace hb : b = true := hb
      subst hb
      exact quiet_case S hsel hnd hQp ih hp' hq I hv hQ hn
    · obtain ⟨hb, hq⟩ := hq
      replace hb : b = false := hb
      subst hb
      by_cases hpE : p ∈ ix E
      · exact name_case S hsel ih hp' hq I hpE hv hQ hn
      · exact turn_case S hsel ih hp' hq hv hQ n I hpE hn
/-- a drawn region -/
theorem evDr_run (S : Snd P Ty call) (hm : P.follows .mixedOrders = true) {id : Nat} {F F' : Fr} {e : Nv} {h h' : Hp} {a : Act} {w : World}
    (r : RepH B w0 e h w) (f : RepF e h.nx F a) (hv : evDr Ty call ops F h = some (F', h'))
    (hQ : ∀ e' w' a', Nv.ext h.nx e e' → RepH B w0 e' h' w' → RepF e' h'.nx F' a' → h.nx ≤ h'.nx → F'.ro = F.ro → Q .normal a' w') : (Code.region id ops true).wpIn (F.fe e) 0 P Q a w := by
  unfold evDr at hv
  split at hv
  · rename_i l hl
    unfold planE at hl
    split at hl
    · rename_i hsel hdf
      have hnd : ∀ (j : Nat) (o : Oper) c, ops[j]? = some o → o.op ≠ .defer c := fun j o c ho hc => by
        have h1 : isDefer o = true := by unfold isDefer; rw [hc]
        have h2 : ops.toList.any isDefer = true := List.any_eq_true.2 ⟨o, by simpa using Array.mem_of_getElem? ho, h1⟩
        rw [hdf] at h2; cases h2
      refine Code.wpIn_mono (Q := fun x a w => match x with
        | .normal => Q .normal a w
        | _ => False) ?_ ?_
      · intro x a w hx
        cases x <;> first
          | exact hx
          | exact hx.elim
      · refine wpIn_region_any hm (wpAny_of_G (S := SxC P Ty ops []) _ _ _ _ ?_)
        refine wpG_plan S hsel hnd (fun c a w hc => hc) l (E := []) (D := []) (a0 := a) hl ⟨by simp, r.drew, f, Agr.refl a, (fun q hq => (by cases hq)), (fun q hq => (by cases hq)), (fun q hq => (by cases hq)), .nil, trivial, (fun hh => (hh rfl).elim), Shut.none _⟩ hv hQ ?_
        show unl ops.size (Array.replicate ops.size false) ≤ ops.size
        unfold unl
        exact Nat.le_trans (List.length_filter_le _ _) (by simp)
    · cases hl
  · cases hv
end
end Go.Proofs.YtlfljoeafpimpaaGreatDoor
