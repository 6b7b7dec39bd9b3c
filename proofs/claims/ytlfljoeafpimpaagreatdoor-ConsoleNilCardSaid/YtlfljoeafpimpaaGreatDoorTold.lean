/- Oracles of the evaluator: a call told once with the part of the heap that it sees, its answer, and what it turned and made: so a long run is cut into many. -/
import Derived.Test.YtlfljoeafpimpaaGreatDoorMlr
import Derived.Test.YtlfljoeafpimpaaGreatDoorCut
namespace Go.Proofs.YtlfljoeafpimpaaGreatDoor
open Go.RowKit

/-- objects, listed, as a heap's trie -/
noncomputable def listT (l : List (Nat × RO)) : Tr RO := List.rec (motive := fun _ => Tr RO) .nil (fun x _ t => Tr.set HD t x.1 (.leaf x.2)) l
/-- a call: its arguments; the size and the part of the heap it begins with; its answer; the size behind it; what turned, what is new; of what nothing is known any more -/
structure Told where
  xs : List RV
  nx : Nat
  pre : List (Nat × RO)
  v : RV
  nx' : Nat
  post : List (Nat × RO)
  gone : List Nat
noncomputable def preIn (h : Hp) (l : List (Nat × RO)) : Bool := List.rec (motive := fun _ => Bool) true (fun x _ ih => match h.at? x.1 with
  | some o => match eqOb o x.2 with
    | true => ih
    | false => false
  | none => false) l
noncomputable def putA (l : List (Nat × RO)) (h : Hp) : Hp := List.rec (motive := fun _ => Hp) h (fun x _ k => k.put x.1 x.2) l
noncomputable def dropA (l : List Nat) (h : Hp) : Hp := List.rec (motive := fun _ => Hp) h (fun i _ k => k.drop i) l
noncomputable def toldO (l : List Told) : OrcE := fun ys h => List.rec (motive := fun _ => Option (RV × Hp)) none (fun t _ ih => match Nat.beq t.nx h.nx with
  | true => match eqRL ys t.xs, preIn h t.pre with
    | true, true => some (t.v, ⟨t.nx', (putA t.post (dropA t.gone h)).ob⟩)
    | _, _ => ih
  | false => ih) l
/-- what is told of the objects behind it -/
noncomputable def postIn (k : Hp) (l : List (Nat × RO)) : Bool := preIn k l
noncomputable def hasK (i : Nat) (l : List (Nat × RO)) : Bool := List.rec (motive := fun _ => Bool) false (fun x _ ih => match Nat.beq x.1 i with
  | true => true
  | false => ih) l
/-- those of the part that are not told anew are as they were -/
noncomputable def stay (k : Hp) (post : List (Nat × RO)) (gone : List Nat) (l : List (Nat × RO)) : Bool := List.rec (motive := fun _ => Bool) true (fun x _ ih => match hasK x.1 post, hasN x.1 gone with
  | false, false => match k.at? x.1 with
    | some o => match eqOb o x.2 with
      | true => ih
      | false => false
    | none => false
  | _, _ => ih) l
noncomputable def goneIn (pre : List (Nat × RO)) (gone : List Nat) : Bool := List.rec (motive := fun _ => Bool) true (fun i _ ih => match hasK i pre with
  | true => ih
  | false => false) gone
/-- it is so -/
noncomputable def toldOk (r : Option (RV × Hp)) (t : Told) : Bool := match r with
  | some (u, k) => match eqRV u t.v, Nat.beq k.nx t.nx', postIn k t.post, goneIn t.pre t.gone with
    | true, true, true, true => stay k t.post t.gone t.pre
    | _, _, _, _ => false
  | none => false

theorem preIn_cons (h : Hp) (x : Nat × RO) (l : List (Nat × RO)) : preIn h (x :: l) = match h.at? x.1 with
  | some o => match eqOb o x.2 with
    | true => preIn h l
    | false => false
  | none => false := rfl
theorem preIn_mem {h : Hp} : ∀ {l : List (Nat × RO)}, preIn h l = true → ∀ x ∈ l, h.at? x.1 = some x.2
  | [], _, x, hx => by cases hx
  | y :: l, hp, x, hx => by
    rw [preIn_cons] at hp
    split at hp
    · rename_i o ho
      split at hp
      · rename_i he
        rcases List.mem_cons.1 hx with rfl | hx
        · rw [ho, eqOb_eq he]
        · exact preIn_mem hp x hx
      · cases hp
    · cases hp
theorem listT_cons (x : Nat × RO) (l : List (Nat × RO)) : listT (x :: l) = Tr.set HD (listT l) x.1 (.leaf x.2) := rfl
theorem listT_get : ∀ {l : List (Nat × RO)} {i : Nat} {o : RO}, (∀ x ∈ l, x.1 < 2 ^ HD) → Tr.get HD (listT l) i = some o → (i, o) ∈ l
  | [], i, o, _, h => by
    rw [show listT [] = .nil from rfl, Tr.get_nil] at h; cases h
  | x :: l, i, o, hs, h => by
    rw [listT_cons] at h
    have hx := hs x (List.mem_cons_self ..)
    by_cases hi : x.1 = i
    · subst hi
      rw [Tr.get_set_same HD _ _ _ hx] at h
      injection h with h; subst h
      exact List.mem_cons_self ..
    · rw [Tr.get_set_other HD _ _ _ _ hx hi] at h
      exact List.mem_cons_of_mem _ (listT_get (fun y hy => hs y (List.mem_cons_of_mem _ hy)) h)
theorem listT_has : ∀ {l : List (Nat × RO)} {i : Nat} {o : RO}, (∀ x ∈ l, x.1 < 2 ^ HD) → (i, o) ∈ l → ∃ q, Tr.get HD (listT l) i = some q
  | [], i, o, _, h => by cases h
  | x :: l, i, o, hs, h => by
    rw [listT_cons]
    have hx := hs x (List.mem_cons_self ..)
    by_cases hi : x.1 = i
    · subst hi
      exact ⟨_, Tr.get_set_same HD _ _ _ hx⟩
    · rw [Tr.get_set_other HD _ _ _ _ hx hi]
      rcases List.mem_cons.1 h with h | h
      · rw [← h] at hi; exact (hi rfl).elim
      · exact listT_has (fun y hy => hs y (List.mem_cons_of_mem _ hy)) h
theorem putA_cons (x : Nat × RO) (l : List (Nat × RO)) (h : Hp) : putA (x :: l) h = (putA l h).put x.1 x.2 := rfl
theorem putA_get : ∀ {l : List (Nat × RO)} {h : Hp} {i : Nat} {o : RO}, (∀ x ∈ l, x.1 < 2 ^ HD) → (putA l h).at? i = some o → (i, o) ∈ l ∨ (hasK i l = false ∧ h.at? i = some o)
  | [], h, i, o, _, hi => .inr ⟨rfl, hi⟩
  | x :: l, h, i, o, hs, hi => by
    rw [putA_cons] at hi
    have hx := hs x (List.mem_cons_self ..)
    by_cases hxi : x.1 = i
    · subst hxi
      rw [put_same _ hx] at hi
      injection hi with hi; subst hi
      exact .inl (List.mem_cons_self ..)
    · rw [put_other _ hx hxi] at hi
      rcases putA_get (fun y hy => hs y (List.mem_cons_of_mem _ hy)) hi with h1 | ⟨h1, h2⟩
      · exact .inl (List.mem_cons_of_mem _ h1)
      · refine .inr ⟨?_, h2⟩
        show (match Nat.beq x.1 i with
          | true => true
          | false => hasK i l) = false
        have : Nat.beq x.1 i = false := by
          cases hb : Nat.beq x.1 i
          · rfl
          · exact (hxi (Nat.eq_of_beq_eq_true hb)).elim
        rw [this]; exact h1
theorem stay_cons (k : Hp) (post : List (Nat × RO)) (gone : List Nat) (x : Nat × RO) (l : List (Nat × RO)) : stay k post gone (x :: l) = match hasK x.1 post, hasN x.1 gone with
  | false, false => match k.at? x.1 with
    | some o => match eqOb o x.2 with
      | true => stay k post gone l
      | false => false
    | none => false
  | _, _ => stay k post gone l := rfl
theorem stay_mem {k : Hp} {post : List (Nat × RO)} {gone : List Nat} : ∀ {l : List (Nat × RO)}, stay k post gone l = true → ∀ x ∈ l, hasK x.1 post = false → hasN x.1 gone = false → k.at? x.1 = some x.2
  | [], _, x, hx, _, _ => by cases hx
  | y :: l, hp, x, hx, hn, hg => by
    rw [stay_cons] at hp
    split at hp
    · split at hp
      · rename_i o ho
        split at hp
        · rename_i he
          rcases List.mem_cons.1 hx with rfl | hx
          · rw [ho, eqOb_eq he]
          · exact stay_mem hp x hx hn hg
        · cases hp
      · cases hp
    · rename_i hno
      rcases List.mem_cons.1 hx with rfl | hx
      · exact (hno hn hg).elim
      · exact stay_mem hp x hx hn hg
theorem goneIn_cons (pre : List (Nat × RO)) (i : Nat) (l : List Nat) : goneIn pre (i :: l) = match hasK i pre with
  | true => goneIn pre l
  | false => false := rfl
theorem goneIn_mem {pre : List (Nat × RO)} : ∀ {l : List Nat}, goneIn pre l = true → ∀ i ∈ l, hasK i pre = true
  | [], _, i, hi => by cases hi
  | j :: l, hp, i, hi => by
    rw [goneIn_cons] at hp
    split at hp
    · rename_i hj
      rcases List.mem_cons.1 hi with rfl | hi
      · exact hj
      · exact goneIn_mem hp i hi
    · cases hp
theorem hasK_mem {i : Nat} : ∀ {l : List (Nat × RO)}, hasK i l = true → ∃ o, (i, o) ∈ l
  | [], h => by cases h
  | x :: l, h => by
    replace h : (match Nat.beq x.1 i with
      | true => true
      | false => hasK i l) = true := h
    split at h
    · rename_i hb
      have := Nat.eq_of_beq_eq_true hb
      subst this
      exact ⟨x.2, List.mem_cons_self ..⟩
    · obtain ⟨o, ho⟩ := hasK_mem h
      exact ⟨o, List.mem_cons_of_mem _ ho⟩
theorem dropA_cons (i : Nat) (l : List Nat) (h : Hp) : dropA (i :: l) h = (dropA l h).drop i := rfl
theorem dropA_get : ∀ {l : List Nat} {h : Hp} {i : Nat} {o : RO}, (∀ x ∈ l, x < 2 ^ HD) → (dropA l h).at? i = some o → i ∉ l ∧ h.at? i = some o
  | [], h, i, o, _, hi => ⟨List.not_mem_nil, hi⟩
  | x :: l, h, i, o, hs, hi => by
    rw [dropA_cons] at hi
    have hx := hs x (List.mem_cons_self ..)
    by_cases hxi : x = i
    · subst hxi
      have : ((dropA l h).drop x).at? x = none := Tr.get_set_nil HD (dropA l h).ob x hx
      rw [this] at hi; cases hi
    · have : ((dropA l h).drop x).at? i = (dropA l h).at? i := Tr.get_set_other HD (dropA l h).ob x i _ hx hxi
      rw [this] at hi
      obtain ⟨h1, h2⟩ := dropA_get (fun y hy => hs y (List.mem_cons_of_mem _ hy)) hi
      refine ⟨fun hm => ?_, h2⟩
      rcases List.mem_cons.1 hm with h3 | h3
      · exact hxi h3.symm
      · exact h1 h3
theorem at_mk (n : Nat) (T : Tr RO) (i : Nat) : (⟨n, T⟩ : Hp).at? i = Tr.get HD T i := by simp only [Hp.at?]
theorem at_ob (n : Nat) (h : Hp) (i : Nat) : (⟨n, h.ob⟩ : Hp).at? i = h.at? i := by simp only [Hp.at?]
section
variable {P : Program} {call : CallE} {f : FuncId} {B : Nat → Prop} {w0 w : World} {e : Nv} {h : Hp}
theorem told_one (hc : CallOk P call) {t : Told} (hp : toldOk (call.fn f t.xs ⟨t.nx, listT t.pre⟩) t = true) (r : RepH B w0 e h w) (hnx : t.nx = h.nx) (hpre : preIn h t.pre = true) (hxs : ltL h.nx t.xs) :
    Enters P f ∧ Calls P f (trL e t.xs).toArray w (Gives B w0 e h t.v ⟨t.nx', (putA t.post (dropA t.gone h)).ob⟩) := by
  have hmem := preIn_mem hpre
  have hsm : ∀ x ∈ t.pre, x.1 < 2 ^ HD := fun x hx => at_small (hmem x hx)
  have hin : ∀ i o, (⟨t.nx, listT t.pre⟩ : Hp).at? i = some o → (i, o) ∈ t.pre ∧ h.at? i = some o := fun i o hi => by
    rw [at_mk] at hi
    have h1 := listT_get hsm hi
    exact ⟨h1, hmem (i, o) h1⟩
  have r1 : RepH (fun j => ∃ i o, (i, o) ∈ t.pre ∧ j = e.at_ i) w e ⟨t.nx, listT t.pre⟩ w :=
    ⟨Tn.refl _ w, fun i o hi => by
      obtain ⟨h1, h2⟩ := hin i o hi
      obtain ⟨k1, _, k3, k4⟩ := r.obj i o h2
      exact ⟨by show i < t.nx; rw [hnx]; exact k1, fun _ => ⟨i, o, h1, rfl⟩, k3, by show RO.lt t.nx o; rw [hnx]; exact k4⟩,
    fun i j a b hi hj => r.inj i j a b (hin i a hi).2 (hin j b hj).2, r.envSub fun k hk => by
      obtain ⟨i, o, hi, rfl⟩ := hk
      exact (r.obj i o (hmem (i, o) hi)).2.1⟩
  unfold toldOk at hp
  split at hp
  · rename_i u k hrun
    split at hp
    · rename_i hu hk hpost hgone
      have hu := eqRV_eq hu
      subst hu
      have hk : k.nx = t.nx' := Nat.eq_of_beq_eq_true hk
      have hpo : ∀ x ∈ t.post, k.at? x.1 = some x.2 := preIn_mem hpost
      have hpsm : ∀ x ∈ t.post, x.1 < 2 ^ HD := fun x hx => at_small (hpo x hx)
      have hst := stay_mem hp
      have hgsm : ∀ x ∈ t.gone, x < 2 ^ HD := fun x hx => by
        obtain ⟨o, ho⟩ := hasK_mem (goneIn_mem hgone x hx)
        exact hsm (x, o) ho
      obtain ⟨hE, hC⟩ := hc.fn f t.xs e _ t.v k w r1 (by show ltL t.nx t.xs; rw [hnx]; exact hxs) hrun
      refine ⟨hE, hC.mono fun en w' hg => ?_⟩
      cases en with
      | returned z =>
        obtain ⟨e', hx, r5, hle, hlt, rfl⟩ := hg
        have hx : Nv.ext h.nx e e' := by rw [← hnx]; exact hx
        have hle : h.nx ≤ k.nx := by rw [← hnx]; exact hle
        -- what is known of the objects behind the call
        have cls : ∀ i o, (⟨t.nx', (putA t.post (dropA t.gone h)).ob⟩ : Hp).at? i = some o → k.at? i = some o ∨ (h.at? i = some o ∧ ∀ q, (i, q) ∉ t.pre) := fun i o hi => by
          rw [at_ob] at hi
          rcases putA_get (h := dropA t.gone h) hpsm hi with h1 | ⟨h1, h0⟩
          · exact .inl (hpo (i, o) h1)
          · obtain ⟨hng, h2⟩ := dropA_get hgsm h0
            have hng : hasN i t.gone = false := by
              cases hb : hasN i t.gone
              · rfl
              · rw [hasN_eq, List.contains_iff_mem] at hb
                exact (hng hb).elim
            by_cases hq : ∃ q, (i, q) ∈ t.pre
            · obtain ⟨q, hq⟩ := hq
              have h3 : k.at? i = some q := hst (i, q) hq h1 hng
              have h4 : h.at? i = some q := hmem (i, q) hq
              rw [h2] at h4
              injection h4 with h4; subst h4
              exact .inl h3
            · exact .inr ⟨h2, fun q hq2 => hq ⟨q, hq2⟩⟩
        have hnot : ∀ i o, h.at? i = some o → (∀ q, (i, q) ∉ t.pre) → ¬ ∃ j q, (j, q) ∈ t.pre ∧ e.at_ i = e.at_ j := by
          rintro i o hi hil ⟨j, q, hj, he⟩
          have := r.inj i j o q hi (hmem (j, q) hj) he
          subst this; exact hil q hj
        have hown : ∀ j, (∃ i o, (i, o) ∈ t.pre ∧ j = e.at_ i) → Own B w0 j := by
          rintro j ⟨i, o, hi, rfl⟩
          exact (r.obj i o (hmem (i, o) hi)).2.1
        refine ⟨e', hx, ⟨⟨r5.below.os.trans r.below.os, r5.below.tape.trans r.below.tape, r5.below.output.trans r.below.output, Nat.le_trans r.below.size r5.below.size, fun j hj hnb => ?_⟩, fun i o hi => ?_, fun i j a b hi hj hij => ?_, r.env⟩, by show h.nx ≤ t.nx'; rw [← hk]; exact hle, by show RV.lt t.nx' t.v; rw [← hk]; exact hlt, rfl⟩
        · rw [r5.below.block j (Nat.lt_of_lt_of_le hj r.below.size) (fun hf => hnb (hown j hf hj))]
          exact r.below.block j hj hnb
        · show i < t.nx' ∧ _ ∧ _ ∧ RO.lt t.nx' o
          rw [← hk]
          rcases cls i o hi with h1 | ⟨h1, h2⟩
          · obtain ⟨k1, k2, k3, k4⟩ := r5.obj i o h1
            exact ⟨k1, fun hlt0 => hown _ (k2 (Nat.lt_of_lt_of_le hlt0 r.below.size)) hlt0, k3, k4⟩
          · obtain ⟨k1, k2, k3, k4⟩ := r.obj i o h1
            refine ⟨Nat.lt_of_lt_of_le k1 hle, by rw [(hx i k1).1]; exact k2, ?_, RO.lt_mono hle k4⟩
            have hk2 := RO.ok_ext hx k1 k4 k3
            rw [(hx i k1).1, r5.below.block _ (r.live h1) (hnot i o h1 h2)]
            exact hk2
        · have mix : ∀ i j a b, k.at? i = some a → h.at? j = some b → (∀ q, (j, q) ∉ t.pre) → e'.at_ i = e'.at_ j → False := fun i j a b hi hj hjn hij => by
            obtain ⟨_, k2, _, _⟩ := r5.obj i a hi
            obtain ⟨m1, _, _, _⟩ := r.obj j b hj
            rw [hij, (hx j m1).1] at k2
            exact hnot j b hj hjn (k2 (r.live hj))
          rcases cls i a hi with h1 | ⟨h1, h2⟩ <;> rcases cls j b hj with g1 | ⟨g1, g2⟩
          · exact r5.inj i j a b h1 g1 hij
          · exact (mix i j a b h1 g1 g2 hij).elim
          · exact (mix j i b a g1 h1 h2 hij.symm).elim
          · have m1 := (r.obj i a h1).1
            have m2 := (r.obj j b g1).1
            rw [(hx i m1).1, (hx j m2).1] at hij
            exact r.inj i j a b h1 g1 hij
      | panicked c => exact hg.elim
      | outgrown => exact hg.elim
    · cases hp
  · cases hp
theorem toldO_ok (hc : CallOk P call) : ∀ {l : List Told}, (∀ t ∈ l, toldOk (call.fn f t.xs ⟨t.nx, listT t.pre⟩) t = true) → ∀ (B : Nat → Prop) (w0 : World), OrcOk P B w0 f (toldO l)
  | [], _, _, _ => fun xs e h v h' w r hx hv => by cases hv
  | t :: l, hl, B, w0 => fun xs e h v h' w r hx hv => by
    have ih := toldO_ok hc (fun q hq => hl q (List.mem_cons_of_mem _ hq)) B w0 xs e h v h' w r hx
    replace hv : (match Nat.beq t.nx h.nx with
      | true => match eqRL xs t.xs, preIn h t.pre with
        | true, true => some (t.v, (⟨t.nx', (putA t.post (dropA t.gone h)).ob⟩ : Hp))
        | _, _ => toldO l xs h
      | false => toldO l xs h) = some (v, h') := hv
    split at hv
    · rename_i hn
      split at hv
      · rename_i h1 h2
        injection hv with hv
        injection hv with e1 e2; subst e1 e2
        obtain rfl := eqRL_eq h1
        exact told_one hc (hl t (List.mem_cons_self ..)) r (Nat.eq_of_beq_eq_true hn) h2 hx
      · exact ih hv
    · exact ih hv
end
end Go.Proofs.YtlfljoeafpimpaaGreatDoor
