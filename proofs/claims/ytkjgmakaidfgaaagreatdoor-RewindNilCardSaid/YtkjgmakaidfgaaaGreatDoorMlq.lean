/- The evaluator: loops over maps of any number of entries, each round of which turns a block of its own: all rounds. -/
import Derived.Test.YtkjgmakaidfgaaaGreatDoorMlp
namespace Go.Proofs.YtkjgmakaidfgaaaGreatDoor
open Go.RowKit Go.ChangeMaps

/-- the heap behind some rounds -/
noncomputable def mlH (h : Hp) (n q since : Nat) (S : List ((RV × RV × Nat) × (Nat × List Nat × RO))) (c0 : Nat) : Hp := (putL (S.map fun z => z.2) h).put n (.itr (some q) since (S.map fun z => z.1.2.2) c0)
section
variable {P : Program} {Ty : Tr TypeInfo} {B : Nat → Prop} {w0 : World} {e : Nv} {h : Hp} {call : CallE} {lf : Nat}
theorem fe_ro {F G : Fr} (h : F.ro = G.ro) : F.fe e = G.fe e := by unfold Fr.fe; rw [h]
theorem ml_opd {F : Fr} {nx t : Nat} {a : Act} {v : RV} (f : RepF e nx F a) (ht : t < F.nt) : opd (F.put (some t) v) (.tmp t) = some v := by
  obtain ⟨d, hf, hn⟩ := f.fullT
  show (match Nat.ble (t + 1) F.nt with
    | true => getR (putR F.T t (.leaf v)) t
    | false => none) = some v
  rw [Nat.ble_eq_true_of_le ht]
  exact getR_put_same d F.T t v hf
theorem ml_opdo {F : Fr} {nx t s : Nat} {a : Act} {v : RV} (f : RepF e nx F a) (ht : t < F.nt) (hs : s < F.nt) (hn : t ≠ s) : opd (F.put (some t) v) (.tmp s) = opd F (.tmp s) := by
  obtain ⟨d, hf, hnt⟩ := f.fullT
  show (match Nat.ble (s + 1) F.nt with
    | true => getR (putR F.T t (.leaf v)) s
    | false => none) = match Nat.ble (s + 1) F.nt with
    | true => getR F.T s
    | false => none
  rw [getR_put_other d F.T t s v hf (Nat.lt_of_lt_of_le ht hnt) (Nat.lt_of_lt_of_le hs hnt) hn]
theorem len_sub : ∀ {l m : List Nat}, l.Nodup → (∀ x ∈ l, x ∈ m) → l.length ≤ m.length
  | [], _, _, _ => Nat.zero_le _
  | x :: l, m, hn, hs => by
    obtain ⟨h1, h2⟩ := List.nodup_cons.1 hn
    have hx := hs x (List.mem_cons_self ..)
    have h3 := len_sub (m := m.erase x) h2 fun y hy => (List.mem_erase_of_ne (fun hh : y = x => h1 (hh ▸ hy))).2 (hs y (List.mem_cons_of_mem _ hy))
    rw [List.length_erase_of_mem hx] at h3
    have := List.length_pos_of_mem hx
    simp only [List.length_cons]
    omega
/-- what is known of a loop -/
structure MlIn (Ty : Tr TypeInfo) (call : CallE) (lf : Nat) (m : Ml) (Fk : Fr) (h : Hp) (n q since ck : Nat) (es : List (RV × RV × Nat)) (Z : List ((RV × RV × Nat) × (Nat × List Nat × RO))) : Prop where
  hn : ∃ c0 seen, h.at? n = some (.itr (some q) since seen c0)
  hq : h.at? q = some (.map es ck)
  born : ∀ x ∈ es, x.2.2 < since
  nodup : (es.map fun x => x.2.2).Nodup
  sck : since ≤ ck
  zes : Z.map (fun z => z.1) = es
  zone : ∀ z ∈ Z, mlOne Ty call lf m Fk h z.1 = some z.2
  znd : ((Z.map fun z => z.2).map fun x => x.1).Nodup
  zap : apartL n ((Z.map fun z => z.2).map fun x => x.1) (Z.map fun z => z.2) = true
  t1 : m.t1 < Fk.nt
  t2 : m.t2 < Fk.nt
  t3 : m.t3 < Fk.nt
  n1 : m.t1 ≠ m.i
  n2 : m.t2 ≠ m.i
  D : Fk.D = []
  it : opd Fk (.tmp m.i) = some (.ptr n 0)
section
variable {m : Ml} {Fk : Fr} {n q since ck : Nat} {es : List (RV × RV × Nat)} {Z : List ((RV × RV × Nat) × (Nat × List Nat × RO))} (I : MlIn Ty call lf m Fk h n q since ck es Z)
include I
theorem MlIn.small : ∀ z ∈ Z, z.2.1 < 2 ^ HD := fun z hz => by
  obtain ⟨o, _, _, _, _, _, ho, _⟩ := mlOne_some (I.zone z hz)
  exact at_small ho
theorem MlIn.nsmall : n < 2 ^ HD := by
  obtain ⟨c0, seen, h1⟩ := I.hn
  exact at_small h1
theorem MlIn.ne_n : ∀ z ∈ Z, z.2.1 ≠ n := fun z hz hh => by
  obtain ⟨o, ss, t, _, _, _, ho, hss, _⟩ := mlOne_some (I.zone z hz)
  obtain ⟨c0, seen, h1⟩ := I.hn
  rw [hh, h1] at ho
  injection ho with ho; subst ho
  cases hss
theorem MlIn.ne_q : ∀ z ∈ Z, z.2.1 ≠ q := fun z hz hh => by
  obtain ⟨o, ss, t, _, _, _, ho, hss, _⟩ := mlOne_some (I.zone z hz)
  rw [hh, I.hq] at ho
  injection ho with ho; subst ho
  cases hss
theorem MlIn.nq : n ≠ q := fun hh => by
  obtain ⟨c0, seen, h1⟩ := I.hn
  rw [hh, I.hq] at h1
  cases h1
theorem MlIn.bornZ : (Z.map fun z => z.1.2.2).Nodup := by
  have h1 := I.nodup
  rw [← I.zes, List.map_map] at h1
  exact h1
theorem MlIn.inj {z y : (RV × RV × Nat) × (Nat × List Nat × RO)} (hz : z ∈ Z) (hy : y ∈ Z) (hb : z.2.1 = y.2.1) : z = y := by
  have h1 := I.znd
  rw [List.map_map] at h1
  exact map_inj _ h1 hz hy hb
/-- what the heap holds behind some rounds -/
theorem MlIn.at_q {S : List ((RV × RV × Nat) × (Nat × List Nat × RO))} (hS : ∀ z ∈ S, z ∈ Z) (c0 : Nat) : (mlH h n q since S c0).at? q = some (.map es ck) := by
  unfold mlH
  rw [put_other _ I.nsmall I.nq, putL_other (fun x hx => ?_) (fun x hx => ?_)]
  · exact I.hq
  · obtain ⟨z, hz, rfl⟩ := List.mem_map.1 hx
    exact I.small z (hS z hz)
  · obtain ⟨z, hz, rfl⟩ := List.mem_map.1 hx
    exact I.ne_q z (hS z hz)
theorem MlIn.at_n (S : List ((RV × RV × Nat) × (Nat × List Nat × RO))) (c0 : Nat) : (mlH h n q since S c0).at? n = some (.itr (some q) since (S.map fun z => z.1.2.2) c0) := put_same _ I.nsmall
/-- what a round sees is as it was -/
theorem MlIn.at_fp {S : List ((RV × RV × Nat) × (Nat × List Nat × RO))} (hS : ∀ z ∈ S, z ∈ Z) {z : (RV × RV × Nat) × (Nat × List Nat × RO)} (hz : z ∈ Z) (hzS : z ∉ S) (c0 : Nat) {H2 : Hp}
    (hH2 : ∀ i, i ≠ n → H2.at? i = (mlH h n q since S c0).at? i) : ∀ i ∈ z.2.2.1, H2.at? i = h.at? i := fun i hi => by
  have hap := List.all_eq_true.1 I.zap z.2 (List.mem_map.2 ⟨z, hz, rfl⟩)
  have hap := List.all_eq_true.1 hap i hi
  unfold apart1 at hap
  split at hap
  · cases hap
  · rename_i hin
    have hin : i ≠ n := Nat.ne_of_beq_eq_false hin
    rw [hH2 i hin]
    unfold mlH
    rw [put_other _ I.nsmall (Ne.symm hin)]
    refine putL_other (fun x hx => ?_) (fun x hx hh => ?_)
    · obtain ⟨y, hy, rfl⟩ := List.mem_map.1 hx
      exact I.small y (hS y hy)
    · obtain ⟨y, hy, rfl⟩ := List.mem_map.1 hx
      split at hap
      · rename_i hib
        have hib := Nat.eq_of_beq_eq_true hib
        exact hzS (I.inj (hS y hy) hz (hh.trans hib) ▸ hy)
      · split at hap
        · cases hap
        · rename_i hno
          rw [hasN_eq] at hno
          have : i ∈ ((Z.map fun z => z.2).map fun x => x.1) := by
            rw [← hh]
            exact List.mem_map.2 ⟨y.2, List.mem_map.2 ⟨y, hS y hy, rfl⟩, rfl⟩
          rw [List.contains_iff_mem.2 this] at hno
          cases hno
/-- all rounds -/
theorem ml_rounds (Sn : Snd P Ty call) (hc : CallOk P call) (hmo : P.follows .mixedOrders = true) {c : Code} (hm : MlOk c m) {Q : Exit → Act → World → Prop}
    (hQ : ∀ w' a', RepH B w0 e ((putL (Z.map fun z => z.2) h).drop n) w' → RepF e h.nx ((Fk.put (some m.t1) (.tup [.lit (.bool false)])).put (some m.t2) (.lit (.bool false))) a' → Q (.exit m.k) a' w') :
    ∀ (k : Nat) (S : List ((RV × RV × Nat) × (Nat × List Nat × RO))) {a : Act} {w : World} {c0 : Nat}, (∀ z ∈ S, z ∈ Z) → (S.map fun z => z.1.2.2).Nodup → Z.length < S.length + k → since ≤ c0 → RepH B w0 e (mlH h n q since S c0) w → RepF e h.nx Fk a → Code.roundsIn (Fk.fe e) 0 P c Q k a w
  | 0, S, a, w, c0, hS, hnd, hk, _, _, _ => by
    exfalso
    have h1 : (S.map fun z => z.1.2.2).length ≤ (Z.map fun z => z.1.2.2).length := len_sub hnd fun x hx => by
      obtain ⟨z, hz, rfl⟩ := List.mem_map.1 hx
      exact List.mem_map.2 ⟨z, hS z hz, rfl⟩
    simp at h1
    omega
  | k + 1, S, a, w, c0, hS, hnd, hk, hsc, r, f => by
    obtain ⟨id1, id2, ops1, o1, o2, o3, rfl, hops1, hops2, ⟨d1, p1, g1⟩, ⟨d2, p2, g2⟩, ⟨d3, p3, g3⟩⟩ := hm.code
    have hit : w.heap[e.at_ n]? = some (.mapIter (some (e.at_ q)) since (S.map fun z => z.1.2.2).toArray c0) := (r.obj n _ (I.at_n S c0)).2.2.1
    have hblk : w.heap[e.at_ q]? = some (.map (es.map (trE e)).toArray ck) := (r.obj q _ (I.at_q hS c0)).2.2.1
    have hold : ∀ z ∈ ((es.map (trE e)).toArray).toList, z.born < since := fun z hz => by
      simp only at hz
      obtain ⟨u, hu, rfl⟩ := List.mem_map.1 hz
      exact I.born u hu
    have hit0 : a.eval (.tmp m.i) = .pointer (some ⟨e.at_ n, 0, none⟩) := (opd_run f I.it).1
    have hHnx : (mlH h n q since S c0).nx = h.nx := putL_nx _ _
    show (Code.seq _ _).wpIn (Fk.fe e) 0 P _ a w
    refine wpIn_seq (wpIn_region_list ?_)
    rw [hops1]
    rcases run_next_at (P := P) w o1.type (e.at_ n) (e.at_ q) since c0 (S.map fun z => z.1.2.2).toArray _ ck hit hblk hold hsc with ⟨hleft, hr⟩ | ⟨z', hz', w1, hw1, hr⟩
    · -- nothing is left
      have hcov : ∀ z ∈ Z, z ∈ S := fun z hz => by
        rw [left_of] at hleft
        simp only [List.size_toArray, List.length_map] at hleft
        have hle := List.eq_nil_of_length_eq_zero hleft
        rw [leftE_eq, List.filter_eq_nil_iff] at hle
        have h1 := hle z.1 (by rw [← I.zes]; exact List.mem_map.2 ⟨z, hz, rfl⟩)
        have h2 : (S.map fun z => z.1.2.2).contains z.1.2.2 = true := by
          cases hcc : (S.map fun z => z.1.2.2).contains z.1.2.2 with
          | true => rfl
          | false => exact absurd (by rw [hcc]; rfl) h1
        obtain ⟨y, hy, hyz⟩ := List.mem_map.1 (List.contains_iff_mem.1 h2)
        rw [← map_inj _ I.bornZ (hS y hy) hz hyz]
        exact hy
      refine one_step g1 (v := .tuple #[.bool false]) (w' := w) (by unfold execOp; rw [p1]; refine run_value ?_; rw [hit0]; exact hr) ?_
      have f1 := f.put (d := some m.t1) (v := .tup [.lit (.bool false)]) (fun t ht => by injection ht with ht; subst ht; exact I.t1) ⟨trivial, trivial⟩
      have e1 : opExt (Fk.put (some m.t1) (.tup [.lit (.bool false)])) h (.tmp m.t1) 0 = some (.lit (.bool false), h) := by
        unfold opExt
        rw [ml_opd f I.t1]; rfl
      rw [d1]
      have q1 := (opExt_run (P := P) (w := w) f1 e1 p2).1.1
      refine one_step g2 q1 ?_
      rw [d2]
      have f2 := f1.put (d := some m.t2) (v := .lit (.bool false)) (fun t ht => by injection ht with ht; subst ht; exact I.t2) trivial
      show (Code.seq _ _).wpIn (Fk.fe e) 0 P _ _ w
      refine wpIn_seq (wpIn_cond_false ?_ (wpIn_exit ?_))
      · exact (opd_run f2 (ml_opd f1 I.t2)).1
      · refine hQ w _ ?_ f2
        refine (r.drop I.nsmall).same (by show (putL _ h).nx = (putL _ h).nx; rw [putL_nx, putL_nx]) fun i => ?_
        by_cases hin : n = i
        · subst hin
          rw [show ∀ H : Hp, (H.drop n).at? n = none from fun H => Tr.get_set_nil HD H.ob n I.nsmall, show ∀ H : Hp, (H.drop n).at? n = none from fun H => Tr.get_set_nil HD H.ob n I.nsmall]
        · rw [show ∀ H : Hp, (H.drop n).at? i = H.at? i from fun H => Tr.get_set_other HD H.ob n i _ I.nsmall hin, show ∀ H : Hp, (H.drop n).at? i = H.at? i from fun H => Tr.get_set_other HD H.ob n i _ I.nsmall hin]
          unfold mlH
          rw [put_other _ I.nsmall hin]
          refine putL_alike (fun x hx => ?_) ?_ I.znd (fun x => ⟨fun hx => ?_, fun hx => ?_⟩) i
          · obtain ⟨z, hz, rfl⟩ := List.mem_map.1 hx
            exact I.small z (hS z hz)
          · rw [List.map_map]
            refine (List.pairwise_map.2 ((List.pairwise_map.1 hnd).imp_of_mem fun {x y} hx hy hne hh => hne ?_))
            rw [I.inj (hS x hx) (hS y hy) hh]
          · obtain ⟨z, hz, rfl⟩ := List.mem_map.1 hx
            exact List.mem_map.2 ⟨z, hS z hz, rfl⟩
          · obtain ⟨z, hz, rfl⟩ := List.mem_map.1 hx
            exact List.mem_map.2 ⟨z, hcov z hz, rfl⟩
    · -- one is left
      rw [left_of] at hz'
      simp only [List.mem_map] at hz'
      obtain ⟨x, hx, rfl⟩ := hz'
      rw [leftE_eq, List.mem_filter] at hx
      obtain ⟨hxes, hxs⟩ := hx
      have hxz : x ∈ Z.map fun z => z.1 := by rw [I.zes]; exact hxes
      obtain ⟨z, hz, rfl⟩ := List.mem_map.1 hxz
      have hzS : z ∉ S := fun hh => by
        simp only [Bool.not_eq_true', List.contains_eq_mem, decide_eq_false_iff_not] at hxs
        exact hxs (List.mem_map.2 ⟨z, hh, rfl⟩)
      obtain ⟨ob, ss, t, F5, h5, hzv, hob, hss, hrun, hN, hD5, hlit, hnt5, hle5, hbfp, hoth⟩ := mlOne_some (I.zone z hz)
      have r1 : RepH B w0 e (mlH h n q since S c0) w1 := by
        rcases hw1 with rfl | rfl
        · exact r
        · exact r.drew
      have r2 := r1.setObj (x := .mapIter (some (e.at_ q)) since ((S.map fun z => z.1.2.2) ++ [z.1.2.2]).toArray ck) (o' := .itr (some q) since ((S.map fun z => z.1.2.2) ++ [z.1.2.2]) ck) (I.at_n S c0) (by simp [RO.ok]) (r.obj n _ (I.at_n S c0)).2.2.2
      have hzl := map_lt r (I.at_q hS c0) z.1 hxes
      rw [hHnx] at hzl
      refine one_step g1 (v := .tuple #[.bool true, RV.tr e z.1.1, RV.tr e z.1.2.1]) (w' := setBlock w1 (e.at_ n) (.mapIter (some (e.at_ q)) since ((S.map fun z => z.1.2.2).toArray.push (trE e z.1).born) ck)) (by unfold execOp; rw [p1]; refine run_value ?_; rw [hit0]; exact hr) ?_
      have hset : setBlock w1 (e.at_ n) (.mapIter (some (e.at_ q)) since ((S.map fun z => z.1.2.2).toArray.push (trE e z.1).born) ck) = { w1 with heap := w1.heap.setIfInBounds (e.at_ n) (.mapIter (some (e.at_ q)) since ((S.map fun z => z.1.2.2) ++ [z.1.2.2]).toArray ck) } := by
        simp [setBlock, trE]
      rw [hset]
      generalize hw2 : ({ w1 with heap := w1.heap.setIfInBounds (e.at_ n) (.mapIter (some (e.at_ q)) since ((S.map fun z => z.1.2.2) ++ [z.1.2.2]).toArray ck) } : World) = w2 at r2
      have f1 := f.put (d := some m.t1) (v := .tup [.lit (.bool true), z.1.1, z.1.2.1]) (fun t ht => by injection ht with ht; subst ht; exact I.t1) ⟨trivial, hzl.1, hzl.2, trivial⟩
      have e1 : opExt (Fk.put (some m.t1) (.tup [.lit (.bool true), z.1.1, z.1.2.1])) h (.tmp m.t1) 0 = some (.lit (.bool true), h) := by
        unfold opExt
        rw [ml_opd f I.t1]; rfl
      rw [d1]
      have q1 := (opExt_run (P := P) (w := w2) f1 e1 p2).1.1
      refine one_step g2 q1 ?_
      rw [d2]
      have f2 := f1.put (d := some m.t2) (v := .lit (.bool true)) (fun t ht => by injection ht with ht; subst ht; exact I.t2) trivial
      show (Code.seq _ _).wpIn (Fk.fe e) 0 P _ _ w2
      refine wpIn_seq (wpIn_cond_true ?_ (wpIn_skip ?_))
      · exact (opd_run f2 (ml_opd f1 I.t2)).1
      show (Code.block _ _).wpIn (Fk.fe e) 0 P _ _ w2
      have hatn2 : ((mlH h n q since S c0).put n (.itr (some q) since ((S.map fun z => z.1.2.2) ++ [z.1.2.2]) ck)).at? n = some (.itr (some q) since ((S.map fun z => z.1.2.2) ++ [z.1.2.2]) ck) := put_same _ I.nsmall
      have hH2 : ∀ i, i ≠ n → ((mlH h n q since S c0).put n (.itr (some q) since ((S.map fun z => z.1.2.2) ++ [z.1.2.2]) ck)).at? i = (mlH h n q since S c0).at? i := fun i hi => put_other _ I.nsmall (Ne.symm hi)
      have hatq2 : ((mlH h n q since S c0).put n (.itr (some q) since ((S.map fun z => z.1.2.2) ++ [z.1.2.2]) ck)).at? q = some (.map es ck) := (hH2 q (Ne.symm I.nq)).trans (I.at_q hS c0)
      have hit2 : w2.heap[e.at_ n]? = some (.mapIter (some (e.at_ q)) since ((S.map fun z => z.1.2.2).toArray.push (trE e z.1).born) ck) := by
        have := (r2.obj n _ hatn2).2.2.1
        simpa [RO.ok, trE] using this
      have hblk2 : w2.heap[e.at_ q]? = some (.map (es.map (trE e)).toArray ck) := (r2.obj q _ hatq2).2.2.1
      have hent := run_entry_at (P := P) w2 (e.at_ n) (e.at_ q) since (S.map fun z => z.1.2.2).toArray (es.map (trE e)).toArray ck (trE e z.1) hit2 hblk2 (by simpa using ⟨_, _, _, hxes, rfl⟩) (by
        have h1 := I.nodup
        simp only [List.map_map]
        exact h1)
      have hfp := I.at_fp hS hz hzS c0 hH2
      have hnx2 : h.nx = ((mlH h n q since S c0).put n (.itr (some q) since ((S.map fun z => z.1.2.2) ++ [z.1.2.2]) ck)).nx := hHnx.symm
      have rs := sub_rep r2 hnx2 hfp
      have hit3 : (((a.put (some m.t1) (RV.tr e (.tup [.lit (.bool true), z.1.1, z.1.2.1]))).put (some m.t2) (RV.tr e (.lit (.bool true)))).eval (.tmp m.i)) = .pointer (some ⟨e.at_ n, 0, none⟩) := by
        have hi := I.it
        have hilt : m.i < Fk.nt := by
          simp only [opd] at hi
          split at hi
          · rename_i hb; exact Nat.le_of_ble_eq_true hb
          · cases hi
        have h4 := ml_opdo (v := .tup [.lit (.bool true), z.1.1, z.1.2.1]) f I.t1 hilt I.n1
        have h3 := ml_opdo (v := .lit (.bool true)) f1 I.t2 hilt I.n2
        rw [h4, hi] at h3
        exact (opd_run f2 h3).1
      have f3 := f2.put (d := some m.t3) (v := .tup [z.1.1, z.1.2.1]) (fun t ht => by injection ht with ht; subst ht; exact I.t3) ⟨hzl.1, hzl.2, trivial⟩
      have hfe : Fk.fe e = (mlF m Fk z.1).fe e := fe_ro (by unfold mlF; rw [Fr.put_ro, Fr.put_ro, Fr.put_ro])
      rw [hfe]
      refine mlRun_ok (h := subH h z.2.2.1) Sn hc hmo hops2 g3 rs (v := RV.tr e (.tup [z.1.1, z.1.2.1])) (by unfold execOp; rw [p3]; refine run_value ?_; exact (congrArg (fun x => (Instr.entry x).run P w2) hit3).trans hent) (by rw [d3]; exact f3) hrun fun e5 w5 a5 hx5 r5 f5 hro5 => ?_
      show Code.roundsIn _ 0 P _ Q k a5 w5
      rw [← hfe]
      refine ml_rounds Sn hc hmo hm hQ k (S ++ [z]) (c0 := ck) (fun y hy => ?_) ?_ (by simp; omega) I.sck ?_ ?_
      · rcases List.mem_append.1 hy with hy | hy
        · exact hS y hy
        · rw [List.mem_singleton.1 hy]; exact hz
      · rw [List.map_append]
        refine List.nodup_append.2 ⟨hnd, by simp, fun u hu v hv => ?_⟩
        simp only [List.map_cons, List.map_nil, List.mem_singleton] at hv
        subst hv
        simp only [Bool.not_eq_true', List.contains_eq_mem, decide_eq_false_iff_not] at hxs
        exact fun hh => hxs (hh ▸ hu)
      · have rb := back_rep r2 hnx2 hfp r5 hx5 ((hfp _ hbfp).trans hob) hN hlit hoth
        refine rb.same (by show (putL _ h).nx = (putL _ h).nx; rw [putL_nx, putL_nx]) fun i => ?_
        have hbn := I.ne_n z hz
        unfold mlH
        rw [List.map_append, List.map_append, putL_app]
        simp only [List.map_cons, List.map_nil]
        by_cases hin : n = i
        · subst hin
          rw [put_same _ I.nsmall, put_other _ (I.small z hz) hbn, put_same _ I.nsmall]
        · rw [put_other _ I.nsmall hin]
          show ((putL _ h).put z.2.1 z.2.2.2).at? i = _
          by_cases hib : z.2.1 = i
          · subst hib
            rw [put_same _ (I.small z hz), put_same _ (I.small z hz)]
          · rw [put_other _ (I.small z hz) hib, put_other _ (I.small z hz) hib, put_other _ I.nsmall hin, put_other _ I.nsmall hin]
      · have fk : RepF e ((mlH h n q since S c0).put n (.itr (some q) since ((S.map fun z => z.1.2.2) ++ [z.1.2.2]) ck)).nx Fk a := by rw [← hnx2]; exact f
        have := kept_rep (H := h) f5 f hx5 hnt5 hD5 I.D hle5
        exact this
end
end
end Go.Proofs.YtkjgmakaidfgaaaGreatDoor
