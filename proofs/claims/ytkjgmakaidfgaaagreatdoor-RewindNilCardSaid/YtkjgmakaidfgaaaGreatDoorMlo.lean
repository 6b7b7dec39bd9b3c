/- The evaluator: loops over maps of any number of entries, each round of which turns a block of its own. -/
import Derived.Test.YtkjgmakaidfgaaaGreatDoorEvt
import Derived.Test.YtkjgmakaidfgaaaGreatDoorEwd
import Derived.Test.YtkjgmakaidfgaaaGreatDoorPur
import Derived.Maps.Range
namespace Go.Proofs.YtkjgmakaidfgaaaGreatDoor
open Go.RowKit Go.ChangeMaps

/-! ### parts of a heap -/
noncomputable def subT (h : Hp) (l : List Nat) : Tr RO := List.rec (motive := fun _ => Tr RO) .nil (fun i _ t => match h.at? i with
  | some o => Tr.set HD t i (.leaf o)
  | none => t) l
noncomputable def subH (h : Hp) (l : List Nat) : Hp := ⟨h.nx, subT h l⟩
theorem subT_cons (h : Hp) (j : Nat) (l : List Nat) : subT h (j :: l) = match h.at? j with
  | some o => Tr.set HD (subT h l) j (.leaf o)
  | none => subT h l := rfl
theorem subH_in {h : Hp} : ∀ {l : List Nat} {i : Nat} {o : RO}, i ∈ l → h.at? i = some o → (subH h l).at? i = some o
  | [], i, o, hi, _ => by cases hi
  | j :: l, i, o, hi, ho => by
    show Tr.get HD (subT h (j :: l)) i = some o
    rw [subT_cons]
    by_cases hij : j = i
    · subst hij
      rw [ho]
      exact Tr.get_set_same HD _ j o (at_small ho)
    · have hi2 : i ∈ l := by
        rcases List.mem_cons.1 hi with h1 | h1
        · exact (hij h1.symm).elim
        · exact h1
      have ih : Tr.get HD (subT h l) i = some o := subH_in hi2 ho
      split
      · rename_i o' ho'
        rw [Tr.get_set_other HD _ j i _ (at_small ho') hij]; exact ih
      · exact ih
theorem subH_out {h : Hp} : ∀ {l : List Nat} {i : Nat} {o : RO}, (subH h l).at? i = some o → i ∈ l ∧ h.at? i = some o
  | [], i, o, hi => by
    have : (subH h []).at? i = none := Tr.get_nil HD i
    rw [this] at hi; cases hi
  | j :: l, i, o, hi => by
    replace hi : Tr.get HD (subT h (j :: l)) i = some o := hi
    rw [subT_cons] at hi
    split at hi
    · rename_i o' ho'
      by_cases hij : j = i
      · subst hij
        rw [Tr.get_set_same HD _ j o' (at_small ho')] at hi
        injection hi with hi; subst hi
        exact ⟨List.mem_cons_self .., ho'⟩
      · rw [Tr.get_set_other HD _ j i _ (at_small ho') hij] at hi
        obtain ⟨h1, h2⟩ := subH_out (l := l) hi
        exact ⟨List.mem_cons_of_mem _ h1, h2⟩
    · obtain ⟨h1, h2⟩ := subH_out (l := l) hi
      exact ⟨List.mem_cons_of_mem _ h1, h2⟩
def foot (h : Hp) (l : List Nat) (e : Nv) : Nat → Prop := fun j => ∃ i o, i ∈ l ∧ h.at? i = some o ∧ j = e.at_ i
section
variable {P : Program} {Ty : Tr TypeInfo} {B : Nat → Prop} {w0 w w' : World} {e e' : Nv} {h H h5 : Hp} {call : CallE} {lf : Nat}
theorem RepH.same (r : RepH B w0 e h w) {k : Hp} (hn : k.nx = h.nx) (ha : ∀ i, k.at? i = h.at? i) : RepH B w0 e k w :=
  ⟨r.below, fun i o hi => by
    rw [ha] at hi
    obtain ⟨h1, h2, h3, h4⟩ := r.obj i o hi
    exact ⟨by rw [hn]; exact h1, h2, h3, by rw [hn]; exact h4⟩, fun i j a b hi hj => by
    rw [ha] at hi hj
    exact r.inj i j a b hi hj⟩
/-- a part of a heap, seen by itself -/
theorem sub_rep (r : RepH B w0 e H w) {l : List Nat} (hn : h.nx = H.nx) (heq : ∀ i ∈ l, H.at? i = h.at? i) : RepH (foot h l e) w e (subH h l) w :=
  ⟨Tn.refl _ w, fun i o hi => by
    obtain ⟨h1, h2⟩ := subH_out hi
    obtain ⟨k1, _, k3, k4⟩ := r.obj i o (by rw [heq i h1]; exact h2)
    exact ⟨by show i < h.nx; rw [hn]; exact k1, fun _ => ⟨i, o, h1, h2, rfl⟩, k3, by show RO.lt h.nx o; rw [hn]; exact k4⟩,
  fun i j a b hi hj => by
    obtain ⟨h1, h2⟩ := subH_out hi
    obtain ⟨k1, k2⟩ := subH_out hj
    exact r.inj i j a b (by rw [heq i h1]; exact h2) (by rw [heq j k1]; exact k2)⟩
/-- behind a run that saw a part of the heap alone, and turned one block of it -/
theorem back_rep (r : RepH B w0 e H w) {l : List Nat} {b : Nat} {N ob : RO} (hn : h.nx = H.nx) (heq : ∀ i ∈ l, H.at? i = h.at? i) (r5 : RepH (foot h l e) w e' h5 w') (hx : Nv.ext h.nx e e')
    (hob : H.at? b = some ob) (hN : h5.at? b = some N) (hlit : litRO N = true) (hoth : ∀ i ∈ l, i ≠ b → ∀ o, h.at? i = some o → h5.at? i = some o) : RepH B w0 e (H.put b N) w' := by
  have hbn : b < H.nx := (r.obj b ob hob).1
  have hsm := at_small hob
  have hsym : Nv.ext H.nx e' e := fun i hi => by
    have := hx i (by rw [hn]; exact hi)
    exact ⟨this.1.symm, this.2.symm⟩
  have hnot : ∀ i o, H.at? i = some o → i ∉ l → ¬ foot h l e (e.at_ i) := by
    rintro i o hi hil ⟨j, o2, hj, ho2, he⟩
    have := r.inj i j o o2 hi (by rw [heq j hj]; exact ho2) he
    subst this; exact hil hj
  have hown : ∀ j, foot h l e j → Own B w0 j := by
    rintro j ⟨i, o, hi, ho, rfl⟩
    exact (r.obj i o (by rw [heq i hi]; exact ho)).2.1
  have g : ∀ m x, (H.put b N).at? m = some x → ∃ y, H.at? m = some y := fun m x hm => by
    by_cases hbm : b = m
    · subst hbm; exact ⟨ob, hob⟩
    · rw [put_other N hsm hbm] at hm; exact ⟨x, hm⟩
  refine ⟨⟨r5.below.os.trans r.below.os, r5.below.tape.trans r.below.tape, r5.below.output.trans r.below.output, Nat.le_trans r.below.size r5.below.size, fun j hj hnb => ?_⟩, fun i o hi => ?_, fun i j a c hi hj hij => ?_⟩
  · rw [r5.below.block j (Nat.lt_of_lt_of_le hj r.below.size) (fun hf => hnb (hown j hf hj))]
    exact r.below.block j hj hnb
  · by_cases hbi : b = i
    · subst hbi
      rw [put_same N hsm] at hi
      injection hi with hi; subst hi
      obtain ⟨_, _, k3, _⟩ := r5.obj b N hN
      obtain ⟨hltn, _⟩ := litRO_lt hlit H.nx
      have hk := RO.ok_ext hsym hbn hltn k3
      rw [(hx b (by rw [hn]; exact hbn)).1] at hk
      exact ⟨hbn, (r.obj b ob hob).2.1, hk, hltn⟩
    · rw [put_other N hsm hbi] at hi
      obtain ⟨k1, k2, k3, k4⟩ := r.obj i o hi
      refine ⟨k1, k2, ?_, k4⟩
      by_cases hil : i ∈ l
      · obtain ⟨_, _, m3, _⟩ := r5.obj i o (hoth i hil (Ne.symm hbi) o (by rw [← heq i hil]; exact hi))
        have hk := RO.ok_ext hsym k1 k4 m3
        rw [(hx i (by rw [hn]; exact k1)).1] at hk
        exact hk
      · rw [r5.below.block _ (r.live hi) (hnot i o hi hil)]; exact k3
  · obtain ⟨y, hy⟩ := g i a hi
    obtain ⟨z, hz⟩ := g j c hj
    exact r.inj i j y z hy hz hij
/-! ### frames: what is forgotten, what is kept -/
noncomputable def Fr.clear (F : Fr) (cs : List Nat) : Fr := ⟨F.nt, List.rec (motive := fun _ => Tr RV) F.T (fun c _ T => putR T c .nil) cs, F.D, F.ro⟩
theorem RepF.clear {nx : Nat} {F : Fr} {a : Act} (f : RepF e nx F a) : ∀ {cs : List Nat}, (cs.all fun c => Nat.ble (c + 1) F.nt) = true → RepF e nx (F.clear cs) a
  | [], _ => f
  | c :: cs, hc => by
    rw [List.all_cons, Bool.and_eq_true] at hc
    have ih := f.clear hc.2
    have hcl : c < F.nt := Nat.le_of_ble_eq_true hc.1
    obtain ⟨d, hf, hn⟩ := ih.fullT
    exact ⟨ih.size, ⟨d, full_putN d _ c hf, hn⟩, fun i v hi hv => ih.tmp i v hi (getR_putN d _ c i v hf (Nat.lt_of_lt_of_le hcl hn) (Nat.lt_of_lt_of_le hi hn) hv), ih.defers, ih.dlt, ih.rlt⟩
noncomputable def leT : Tr RV → Tr RV → Bool := Tr.rec (motive := fun _ => Tr RV → Bool) (fun _ => true) (fun v u => match u with
    | .leaf u => eqRV v u
    | _ => false) (fun _ _ il ir u => match u with
    | .node a b => il a && ir b
    | _ => false)
theorem leT_get : ∀ {t u : Tr RV}, leT t u = true → ∀ {i : Nat} {v : RV}, getR t i = some v → getR u i = some v
  | .nil, _, _, _, _, hv => by cases hv
  | .leaf x, .nil, h, _, _, _ => by cases h
  | .leaf x, .leaf y, h, _, v, hv => by
    have h1 := eqRV_eq (u := x) (v := y) h
    subst h1; exact hv
  | .leaf x, .node _ _, h, _, _, _ => by cases h
  | .node _ _, .nil, h, _, _, _ => by cases h
  | .node _ _, .leaf _, h, _, _, _ => by cases h
  | .node a b, .node c d, h, i, v, hv => by
    replace h : (leT a c && leT b d) = true := h
    rw [Bool.and_eq_true] at h
    rw [getR_node] at hv ⊢
    split at hv
    · rename_i h0
      rw [if_pos h0]; exact leT_get h.1 hv
    · rename_i h0
      rw [if_neg h0]; exact leT_get h.2 hv
theorem kept_rep {F F5 : Fr} {a a' : Act} (f5 : RepF e' h5.nx F5 a') (f : RepF e H.nx F a) (hx : Nv.ext H.nx e e') (hnt : F5.nt = F.nt) (hD : F5.D = []) (hDk : F.D = []) (hle : leT F.T F5.T = true) : RepF e H.nx F a' :=
  ⟨by rw [f5.size, hnt], f.fullT, fun i v hi hv => by
    obtain ⟨_, hl⟩ := f.tmp i v hi hv
    obtain ⟨h1, _⟩ := f5.tmp i v (by rw [hnt]; exact hi) (leT_get hle hv)
    rw [RV.tr_ext hx v hl] at h1
    exact ⟨h1, hl⟩, by rw [f5.defers, hD, hDk]; rfl, (fun d hd => by rw [hDk] at hd; cases hd), f.rlt⟩
/-! ### puts -/
noncomputable def putL (l : List (Nat × List Nat × RO)) : Hp → Hp := List.rec (motive := fun _ => Hp → Hp) (fun h => h) (fun x _ ih h => ih (h.put x.1 x.2.2)) l
theorem putL_cons (x : Nat × List Nat × RO) (l : List (Nat × List Nat × RO)) (h : Hp) : putL (x :: l) h = putL l (h.put x.1 x.2.2) := rfl
theorem putL_nx : ∀ (l : List (Nat × List Nat × RO)) (h : Hp), (putL l h).nx = h.nx
  | [], _ => rfl
  | x :: l, h => by rw [putL_cons, putL_nx l]; rfl
theorem putL_app : ∀ (l m : List (Nat × List Nat × RO)) (h : Hp), putL (l ++ m) h = putL m (putL l h)
  | [], _, _ => rfl
  | x :: l, m, h => by rw [List.cons_append, putL_cons, putL_cons, putL_app l]
theorem putL_other : ∀ {l : List (Nat × List Nat × RO)} {h : Hp} {i : Nat}, (∀ x ∈ l, x.1 < 2 ^ HD) → (∀ x ∈ l, x.1 ≠ i) → (putL l h).at? i = h.at? i
  | [], _, _, _, _ => rfl
  | x :: l, h, i, hs, hn => by
    rw [putL_cons, putL_other (fun y hy => hs y (List.mem_cons_of_mem _ hy)) (fun y hy => hn y (List.mem_cons_of_mem _ hy)), put_other _ (hs x (List.mem_cons_self ..)) (hn x (List.mem_cons_self ..))]
theorem putL_mem : ∀ {l : List (Nat × List Nat × RO)} {h : Hp} {x : Nat × List Nat × RO}, (∀ x ∈ l, x.1 < 2 ^ HD) → (l.map fun x => x.1).Nodup → x ∈ l → (putL l h).at? x.1 = some x.2.2
  | [], _, _, _, _, hx => by cases hx
  | y :: l, h, x, hs, hn, hx => by
    rw [List.map_cons, List.nodup_cons] at hn
    rw [putL_cons]
    rcases List.mem_cons.1 hx with rfl | hx
    · rw [putL_other (fun z hz => hs z (List.mem_cons_of_mem _ hz)) (fun z hz hh => hn.1 (List.mem_map.2 ⟨z, hz, hh⟩)), put_same _ (hs x (List.mem_cons_self ..))]
    · exact putL_mem (fun z hz => hs z (List.mem_cons_of_mem _ hz)) hn.2 hx
/-- the order is no matter -/
theorem putL_alike {l m : List (Nat × List Nat × RO)} {h : Hp} (hs : ∀ x ∈ l, x.1 < 2 ^ HD) (hl : (l.map fun x => x.1).Nodup) (hm : (m.map fun x => x.1).Nodup) (heq : ∀ x, x ∈ l ↔ x ∈ m) (i : Nat) : (putL m h).at? i = (putL l h).at? i := by
  have hsm : ∀ x ∈ m, x.1 < 2 ^ HD := fun x hx => hs x ((heq x).2 hx)
  by_cases hi : ∃ x ∈ l, x.1 = i
  · obtain ⟨x, hx, rfl⟩ := hi
    rw [putL_mem hs hl hx, putL_mem hsm hm ((heq x).1 hx)]
  · rw [putL_other hs (fun x hx hh => hi ⟨x, hx, hh⟩), putL_other hsm (fun x hx hh => hi ⟨x, (heq x).2 hx, hh⟩)]
end
end Go.Proofs.YtkjgmakaidfgaaaGreatDoor
