/- The evaluator: frames of a run; operations that make a block of their own out of values; activations that agree. -/
import Derived.Test.YtlfljoeafpimpaaGreatDoorEvw
import Derived.Test.YtlfljoeafpimpaaGreatDoorEwa
namespace Go.Proofs.YtlfljoeafpimpaaGreatDoor
open Go.RowKit

section
variable {P : Program} {Ty : Tr TypeInfo} {B : Nat → Prop} {w0 w w1 : World} {e e1 : Nv} {h h' h1 : Hp} {F : Fr} {a b : Act} {o : Oper} {v : RV} {call : CallE}
/-! ### frames -/
/-- the blocks that have names -/
def nmd (e : Nv) (h : Hp) (k : Nat) : Prop := ∃ i o, h.at? i = some o ∧ e.at_ i = k
theorem RepH.nmdB (r : RepH B w0 e h w) {k : Nat} (hk : nmd e h k) : Own B w0 k := by
  obtain ⟨i, o, hi, rfl⟩ := hk
  exact (r.obj i o hi).2.1
theorem RepH.self (r : RepH B w0 e h w) : RepH (nmd e h) w e h w :=
  ⟨Tn.refl _ w, fun i o hi => ⟨(r.obj i o hi).1, fun _ => ⟨i, o, hi, rfl⟩, (r.obj i o hi).2.2⟩, r.inj, r.envSub fun _ hk => r.nmdB hk⟩
theorem RepH.tn (r : RepH B w0 e h w) (t : Tn (nmd e h) w w1) : Tn B w0 w1 :=
  ⟨t.os.trans r.below.os, t.tape.trans r.below.tape, t.output.trans r.below.output, Nat.le_trans r.below.size t.size, fun j hj hn =>
    (t.block j (Nat.lt_of_lt_of_le hj r.below.size) (fun hk => hn (r.nmdB hk hj))).trans (r.below.block j hj hn)⟩
theorem RepH.frame (r : RepH B w0 e h w) (r1 : RepH (nmd e h) w e1 h1 w1) : RepH B w0 e1 h1 w1 :=
  ⟨r.tn r1.below, fun i o hi => by
    obtain ⟨g1, g2, g3, g4⟩ := r1.obj i o hi
    exact ⟨g1, fun hlt => r.nmdB (g2 (Nat.lt_of_lt_of_le hlt r.below.size)) hlt, g3, g4⟩, r1.inj, r.env⟩
theorem Nv.ext.symm {n : Nat} (hx : Nv.ext n e e1) : Nv.ext n e1 e := fun i hi => ⟨(hx i hi).1.symm, (hx i hi).2.symm⟩
theorem add_same (o : RO) (hn : h.nx < 2 ^ HD) : (h.add o).at? h.nx = some o := Tr.get_set_same HD h.ob h.nx o hn
theorem add_other (o : RO) (hn : h.nx < 2 ^ HD) {j : Nat} (hj : h.nx ≠ j) : (h.add o).at? j = h.at? j := Tr.get_set_other HD h.ob h.nx j _ hn hj
theorem RepH.undo (r : RepH B w0 e h w) {ro : RO} (hn : h.nx < 2 ^ HD) (r1 : RepH (nmd e h) w e1 (h.add ro) w1) (hx : Nv.ext h.nx e e1) : RepH B w0 e h w1 :=
  ⟨r.tn r1.below, fun i o hi => by
    obtain ⟨hin, q2, _, q4⟩ := r.obj i o hi
    obtain ⟨_, _, g3, _⟩ := r1.obj i o (by rw [add_other ro hn (by omega)]; exact hi)
    have g := RO.ok_ext hx.symm hin q4 g3
    rw [(hx i hin).1] at g
    exact ⟨hin, q2, g, q4⟩, r.inj, r.env⟩
theorem RepH.fresh (r : RepH B w0 e h w) {ro : RO} (hn : h.nx < 2 ^ HD) (r1 : RepH (nmd e h) w e1 (h.add ro) w1) (hx : Nv.ext h.nx e e1) : w.heap.size ≤ e1.at_ h.nx := by
  rcases Nat.lt_or_ge (e1.at_ h.nx) w.heap.size with hlt | hge
  · obtain ⟨i, o, hi, hk⟩ := (r1.obj h.nx ro (add_same ro hn)).2.1 hlt
    have hin := (r.obj i o hi).1
    have := r1.inj i h.nx o ro (by rw [add_other ro hn (by omega)]; exact hi) (add_same ro hn) (by rw [(hx i hin).1]; exact hk)
    omega
  · exact hge
/-- another block that nobody has a name for -/
theorem RepH.other (r : RepH B w0 e h w) {g : Nat} {ob : Obj} (hown : Own B w0 g) (hfree : ∀ j x, h.at? j = some x → e.at_ j ≠ g) : RepH B w0 e h { w with heap := w.heap.setIfInBounds g ob } := by
  have hoth : ∀ k, k ≠ g → (w.heap.setIfInBounds g ob)[k]? = w.heap[k]? := fun k hk => by
    rw [Array.getElem?_setIfInBounds]; simp [Ne.symm hk]
  refine ⟨⟨r.below.os, r.below.tape, r.below.output, (show w0.heap.size ≤ (w.heap.setIfInBounds g ob).size from by rw [Array.size_setIfInBounds]; exact r.below.size), fun k hk hk' => ?_⟩, fun i o hi => ?_, r.inj, r.env⟩
  · show (w.heap.setIfInBounds g ob)[k]? = _
    rw [hoth k (fun hh => hk' (by rw [hh] at hk ⊢; exact hown hk))]
    exact r.below.block k hk hk'
  · obtain ⟨g1, g2, g3, g4⟩ := r.obj i o hi
    refine ⟨g1, g2, ?_, g4⟩
    show RO.ok e i ((w.heap.setIfInBounds g ob)[e.at_ i]?) o
    rw [hoth _ (hfree i o hi)]
    exact g3
theorem RepH.putSame (r : RepH B w0 e h w) {i : Nat} {o : RO} (hi : h.at? i = some o) : RepH B w0 e (h.put i o) w := by
  have hsm := at_small hi
  have g : ∀ j x, (h.put i o).at? j = some x → h.at? j = some x := fun j x hj => by
    by_cases hij : i = j
    · subst hij
      rw [put_same o hsm] at hj
      rw [hi]; exact hj
    · rw [put_other o hsm hij] at hj; exact hj
  exact ⟨r.below, fun j x hj => r.obj j x (g j x hj), fun j k x y hj hk => r.inj j k x y (g j x hj) (g k y hk), r.env⟩
/-! ### an object whose block has no name yet -/
def RO.okC (e : Nv) (cp : Nat) (x : Option Obj) : RO → Prop
  | .cells cs t => ∃ fr : Nat × Nat, x = some (.cells (trS e cs).toArray t fr) ∧ frz fr (lenS cs)
  | .row cs t sz => ∃ (sp : List Value) (fr : Nat × Nat), x = some (.cells (trS e cs ++ sp).toArray t fr) ∧ lenS cs + sp.length = cp * sz ∧ frz fr (lenS cs + sp.length)
  | _ => False
theorem okC_of {i : Nat} {x : Option Obj} {ro : RO} {cs : List Seg} {t : TypeId} (hs : ro.segs = some (cs, t)) (hok : RO.ok e i x ro) : RO.okC e (e.cap i) x ro := by
  cases ro with
  | cells cs t => exact hok
  | row cs t sz => exact hok
  | map es c => cases hs
  | lop L => cases hs
  | dfr => cases hs
  | itr m s q l => cases hs
theorem ok_of {i cp : Nat} {x : Option Obj} {ro : RO} (hc : e.cap i = cp) (hok : RO.okC e cp x ro) : RO.ok e i x ro := by
  subst hc
  cases ro with
  | cells cs t => exact hok
  | row cs t sz => exact hok
  | map es c => exact hok.elim
  | lop L => exact hok.elim
  | dfr => exact hok.elim
  | itr m s q l => exact hok.elim
theorem okC_ext {n cp : Nat} {x : Option Obj} {ro : RO} (hx : Nv.ext n e e1) (hl : RO.lt n ro) (hok : RO.okC e cp x ro) : RO.okC e1 cp x ro := by
  cases ro with
  | cells cs t => simp only [RO.okC] at hok ⊢; rw [trS_ext hx cs hl]; exact hok
  | row cs t sz => simp only [RO.okC] at hok ⊢; rw [trS_ext hx cs hl]; exact hok
  | map es c => exact hok.elim
  | lop L => exact hok.elim
  | dfr => exact hok.elim
  | itr m s q l => exact hok.elim
theorem okC_cells {cp : Nat} {x : Option Obj} {ro : RO} (hok : RO.okC e cp x ro) : ∃ A t fr, x = some (.cells A t fr) ∧ frz fr A.size ∧ ∀ fr', frz fr' A.size → RO.okC e cp (some (.cells A t fr')) ro := by
  cases ro with
  | cells cs t =>
    obtain ⟨fr, h1, h2⟩ := hok
    refine ⟨_, _, _, h1, by simpa [trS_len] using h2, fun fr' hf => ⟨fr', rfl, by simpa [trS_len] using hf⟩⟩
  | row cs t sz =>
    obtain ⟨sp, fr, h1, h2, h3⟩ := hok
    refine ⟨_, _, _, h1, by simpa [trS_len] using h3, fun fr' hf => ⟨sp, fr', rfl, h2, by simpa [trS_len] using hf⟩⟩
  | map es c => exact hok.elim
  | lop L => exact hok.elim
  | dfr => exact hok.elim
  | itr m s q l => exact hok.elim
/-- what points at it -/
inductive FK where
  | ptr
  | sl (n c : Nat)
  | slu (n : Nat)
def FK.val : FK → Nat → RV
  | .ptr, b => .ptr b 0
  | .sl n c, b => .sl b 0 n c
  | .slu n, b => .slu b 0 n 0
def FK.tr : FK → Nat → Nat → Value
  | .ptr, g, _ => .pointer (some ⟨g, 0, none⟩)
  | .sl n c, g, _ => .slice (some ⟨g, 0, none⟩) n c
  | .slu n, g, cp => .slice (some ⟨g, 0, none⟩) n (cp - 0)
theorem FK.val_tr (k : FK) (e : Nv) (i : Nat) : RV.tr e (k.val i) = k.tr (e.at_ i) (e.cap i) := by cases k <;> rfl
theorem FK.val_lt (k : FK) (i : Nat) : RV.lt (i + 1) (k.val i) := by cases k <;> exact Nat.lt_succ_self i
noncomputable def flE (Ty : Tr TypeInfo) (ρ : Operand → Option RV) (o : Oper) : Option (RO × FK) := match o.op with
  | .alloc t => match zerE Ty t with
    | some z => some (.cells (pack z.cells.toList) t, .ptr)
    | none => none
  | .box t x => match ρ x with
    | some v => some (.cells (nrm v.segs) t, .ptr)
    | none => none
  | .buildSlice t n ps => match parts ρ ps.toList with
    | some l => match undE Ty t with
      | some (.slice el) => match zerE Ty el, szE Ty el with
        | some z, some (s + 1) => (fillS (fun i => some (i * (s + 1), s + 1)) (timesS (pack z.cells.toList) n) l).map fun cs => (.cells cs el, .sl n n)
        | _, _ => none
      | _ => none
    | none => none
  | .convert _ d x => match ρ x, undE Ty d with
    | some (.lit (.string t)), some (.slice el) => some (.row (pack (t.data.toList.map fun b => .int .u8 b.toNat)) el 1, .slu t.size)
    | _, _ => none
  | _ => none
theorem float_forms (hf : floatE Ty o = true) : o.guard = none ∧ (∃ d, o.dst = some d) ∧ ((∃ t, o.op = .alloc t) ∨ (∃ t x, o.op = .box t x) ∨ (∃ t n ps, o.op = .buildSlice t n ps) ∨ ∃ s d x el, o.op = .convert s d x ∧ undE Ty s = some .string ∧ undE Ty d = some (.slice el)) := by
  unfold floatE at hf
  split at hf
  · rename_i d hg hd
    refine ⟨hg, ⟨d, hd⟩, ?_⟩
    split at hf
    · rename_i t ho; exact .inl ⟨t, ho⟩
    · rename_i t x ho; exact .inr (.inl ⟨t, x, ho⟩)
    · rename_i t n ps ho; exact .inr (.inr (.inl ⟨t, n, ps, ho⟩))
    · rename_i s d' x ho
      split at hf
      · rename_i el hs hd'; exact .inr (.inr (.inr ⟨s, d', x, el, ho, hs, hd'⟩))
      · cases hf
    · cases hf
  · cases hf
theorem flE_spec (hf : floatE Ty o = true) (hv : evOp Ty call F h o = some (v, h')) : ∃ ro k, flE Ty (opd F) o = some (ro, k) ∧ v = k.val h.nx ∧ h' = h.add ro ∧ h.nx < 2 ^ HD := by
  obtain ⟨_, _, hforms⟩ := float_forms hf
  unfold evOp at hv
  rcases hforms with ⟨t, ho⟩ | ⟨t, x, ho⟩ | ⟨t, n, ps, ho⟩ | ⟨s, d, x, el, ho, hs, hd⟩
  · rw [ho] at hv
    replace hv : evAlloc Ty h t = some (v, h') := hv
    unfold evAlloc at hv
    split at hv
    · rename_i z hz hr
      injection hv with hv
      injection hv with h1 h2; subst h1 h2
      exact ⟨_, .ptr, by unfold flE; rw [ho]; simp only [hz], rfl, rfl, Hp.room_lt hr⟩
    · cases hv
  · rw [ho] at hv
    replace hv : opBox F h t x = some (v, h') := hv
    unfold opBox at hv
    split at hv
    · rename_i y hy
      unfold evBox at hv
      split at hv
      · rename_i h1 hr
        injection hv with hv
        injection hv with h1 h2; subst h1 h2
        exact ⟨_, .ptr, by unfold flE; rw [ho]; simp only [hy], rfl, rfl, Hp.room_lt hr⟩
      · cases hv
    · cases hv
  · rw [ho] at hv
    replace hv : opBuildSlice Ty F h t n ps = some (v, h') := hv
    unfold opBuildSlice at hv
    split at hv
    · rename_i l hl
      unfold evBuildSlice at hv
      split at hv
      · rename_i el hu
        split at hv
        · rename_i z s hz hs hr
          split at hv
          · obtain ⟨cs, hcs, hh⟩ := some_map hv
            injection hh with e1 e2; subst e1 e2
            exact ⟨_, .sl n n, by unfold flE; rw [ho]; simp only [hl, hu, hz, hs, hcs, Option.map_some], rfl, rfl, Hp.room_lt hr⟩
          · cases hv
        · cases hv
      · cases hv
    · cases hv
  · rw [ho] at hv
    replace hv : opConv Ty F h s d x = some (v, h') := hv
    unfold opConv at hv
    split at hv
    · rename_i p hp
      unfold evConv at hv
      rw [hs, hd] at hv
      split at hv
      · rename_i h1 h2; cases h2
      · rename_i h1 h2; cases h2
      · rename_i el' t h1 h2
        injection h2 with h2
        injection h2 with h2; subst h2
        split at hv
        · rename_i hel hr
          injection hv with hv
          injection hv with e1 e2; subst e1 e2
          exact ⟨_, .slu t.size, by unfold flE; rw [ho]; simp only [hp, hd], rfl, rfl, Hp.room_lt hr⟩
        · cases hv
      · rename_i h1 h2 _; first
          | (cases h1; done)
          | (cases h2; done)
      · rename_i h1 h2 _; first
          | (cases h1; done)
          | (cases h2; done)
      · cases hv
    · cases hv
theorem parts_congr {ρ ρ' : Operand → Option RV} : ∀ {l : List (Nat × Operand)}, (∀ p ∈ l, ρ p.2 = ρ' p.2) → parts ρ l = parts ρ' l
  | [], _ => rfl
  | x :: l, hl => by
    have h1 := hl x (List.mem_cons_self ..)
    have h2 := parts_congr (l := l) fun p hp => hl p (List.mem_cons_of_mem _ hp)
    show (match ρ x.2 with
      | some v => match parts ρ l with
        | some l => some ((x.1, v) :: l)
        | none => none
      | none => none) = (match ρ' x.2 with
      | some v => match parts ρ' l with
        | some l => some ((x.1, v) :: l)
        | none => none
      | none => none)
    rw [h1, h2]
theorem flE_congr {ρ ρ' : Operand → Option RV} (hρ : ∀ x ∈ o.op.operands, ρ x = ρ' x) : flE Ty ρ o = flE Ty ρ' o := by
  unfold flE
  cases ho : o.op <;> rw [ho] at hρ <;> try rfl
  · rename_i t x
    simp only [hρ x (by simp [Op.operands])]
  · rename_i t n ps
    simp only
    rw [parts_congr (ρ' := ρ') fun p hp => hρ p.2 (by
      simp only [Op.operands, List.mem_toArray, List.mem_map]
      exact ⟨p, hp, rfl⟩)]
  · rename_i s d x
    simp only [hρ x (by simp [Op.operands])]
theorem looks_of {ops : Array Oper} {t : Tmp} (hx : Operand.tmp t ∈ o.op.operands) : t ∈ o.looksAt ops :=
  List.mem_append_left _ (List.mem_filterMap.2 ⟨.tmp t, by simpa using hx, rfl⟩)
theorem opd_put {nx : Nat} (f : RepF e nx F a) {d : Option Tmp} (hd : ∀ t, d = some t → t < F.nt) {x : Operand} (hx : ∀ t, d = some t → x ≠ .tmp t) : opd (F.put d v) x = opd F x := by
  cases d with
  | none => rfl
  | some d =>
    cases x with
    | tmp t =>
      have hne : d ≠ t := fun hh => hx d rfl (by rw [hh])
      obtain ⟨D, hf, hn⟩ := f.fullT
      show (match Nat.ble (t + 1) F.nt with
        | true => getR (putR F.T d (.leaf v)) t
        | false => none) = (match Nat.ble (t + 1) F.nt with
        | true => getR F.T t
        | false => none)
      split
      · rename_i hb
        have ht := Nat.le_of_ble_eq_true hb
        exact getR_put_other D F.T d t v hf (Nat.lt_of_lt_of_le (hd d rfl) hn) (Nat.lt_of_lt_of_le ht hn) hne
      · rfl
    | const u => rfl
    | global g => rfl
    | func g => rfl
theorem flE_put {ops : Array Oper} {nx : Nat} (f : RepF e nx F a) {d : Option Tmp} (hd : ∀ t, d = some t → t < F.nt) (hl : ∀ t, d = some t → t ∉ o.looksAt ops) : flE Ty (opd (F.put d v)) o = flE Ty (opd F) o :=
  flE_congr fun x hx => opd_put f hd fun t ht hxt => hl t ht (looks_of (by rw [← hxt]; exact hx))
theorem fillS_lt {n : Nat} {place : Nat → Option (Nat × Nat)} : ∀ {ps : List (Nat × RV)} {cs r : List Seg}, fillS place cs ps = some r → ltS n cs → (∀ p ∈ ps, RV.lt n p.2) → ltS n r
  | [], cs, r, hv, h1, _ => by
    injection hv with hv; subst hv
    exact h1
  | (i, v) :: ps, cs, r, hv, h1, h2 => by
    unfold fillS at hv
    split at hv
    · cases hv
    · split at hv
      · exact fillS_lt hv (putS_lt _ h1 (RV.segs_lt (h2 (i, v) (List.mem_cons_self ..)))) fun p hp => h2 p (List.mem_cons_of_mem _ hp)
      · cases hv
theorem flE_lt (f : RepF e h.nx F a) {ro : RO} {k : FK} (hf : flE Ty (opd F) o = some (ro, k)) : RO.lt h.nx ro ∧ ∃ cs t, ro.segs = some (cs, t) := by
  unfold flE at hf
  split at hf
  · split at hf
    · injection hf with hf
      injection hf with h1 h2; subst h1 h2
      exact ⟨pack_lt _, _, _, rfl⟩
    · cases hf
  · split at hf
    · rename_i u hu
      injection hf with hf
      injection hf with h1 h2; subst h1 h2
      exact ⟨nrm_lt _ (RV.segs_lt (opd_run f hu).2), _, _, rfl⟩
    · cases hf
  · split at hf
    · rename_i l hl
      split at hf
      · split at hf
        · obtain ⟨cs, hcs, hh⟩ := some_map hf
          injection hh with h1 h2; subst h1 h2
          exact ⟨fillS_lt hcs (timesS_lt (pack_lt _) _) (parts_run f hl).2, _, _, rfl⟩
        · cases hf
      · cases hf
    · cases hf
  · split at hf
    · injection hf with hf
      injection hf with h1 h2; subst h1 h2
      exact ⟨pack_lt _, _, _, rfl⟩
    · cases hf
  · cases hf
theorem slicy_tr (hs : slicy o = true) {ρ : Operand → Option RV} {ro : RO} {k : FK} (hf : flE Ty ρ o = some (ro, k)) (g cp : Nat) : ∃ n c, k.tr g cp = .slice (some ⟨g, 0, none⟩) n c := by
  unfold slicy at hs
  unfold flE at hf
  split at hs
  · rename_i ho
    rw [ho] at hf
    simp only at hf
    split at hf
    · split at hf
      · split at hf
        · obtain ⟨cs, hcs, hh⟩ := some_map hf
          injection hh with h1 h2; subst h1 h2
          exact ⟨_, _, rfl⟩
        · cases hf
      · cases hf
    · cases hf
  · rename_i ho
    rw [ho] at hf
    simp only at hf
    split at hf
    · injection hf with hf
      injection hf with h1 h2; subst h1 h2
      exact ⟨_, _, rfl⟩
    · cases hf
  · cases hs
/-! ### marks -/
theorem mark_form {y : Tmp} (hm : markE Ty o = some y) : o.guard = none ∧ (∃ d, o.dst = some d) ∧ ∃ s d el, o.op = .convert s d (.tmp y) ∧ undE Ty d = some (.slice el) ∧ undE Ty el = some (.int .u8) ∧ s = d ∧ ∃ el', undE Ty s = some (.slice el') := by
  unfold markE at hm
  split at hm
  · rename_i d hg hd
    refine ⟨hg, ⟨d, hd⟩, ?_⟩
    split at hm
    · rename_i s d' x ho
      split at hm
      · rename_i y' el' el hs hd'
        split at hm
        · rename_i hel hsd
          injection hm with hm; subst hm
          exact ⟨s, d', el, ho, hd', hel, Nat.eq_of_beq_eq_true hsd, el', hs⟩
        · cases hm
      · cases hm
    · cases hm
  · cases hm
theorem mark_float {y : Tmp} (hm : markE Ty o = some y) : floatE Ty o = false := by
  obtain ⟨hg, ⟨d', hd'⟩, s, d, el, ho, _, _, _, el', hs⟩ := mark_form hm
  unfold floatE
  rw [hg, hd', ho]
  simp only [hs]
theorem mark_run (K : TyOk P Ty) {s d el : TypeId} {g n c : Nat} {A : Array Value} {t : TypeId} {fr : Nat × Nat} (hd : undE Ty d = some (.slice el)) (he : undE Ty el = some (.int .u8)) (hsd : s = d) (hblk : w.heap[g]? = some (.cells A t fr)) (hfz : frz fr A.size) :
    ∃ fr', frz fr' A.size ∧ (convert s d (.slice (some ⟨g, 0, none⟩) n c)).run P w = .ok (.slice (some ⟨g, 0, none⟩) n c) { w with heap := w.heap.setIfInBounds g (.cells A t fr') } := by
  have hlt : g < w.heap.size := (Array.getElem?_eq_some_iff.1 hblk).1
  obtain ⟨lo, hi⟩ := fr
  have hz : frz (if lo == hi then (A.size, A.size + 1) else (min lo A.size, max hi (A.size + 1))) A.size := by
    right
    split
    · exact Nat.le_refl _
    · rename_i hne
      rcases hfz with h0 | h0
      · injection h0 with h1 h2; subst h1 h2; exact (hne rfl).elim
      · simp only at h0 ⊢; omega
  generalize hfr : (if lo == hi then (A.size, A.size + 1) else (min lo A.size, max hi (A.size + 1))) = fr' at hz
  refine ⟨fr', hz, ?_⟩
  have hsh : w.shape? g = some (t, A.size) := by simp [World.shape?, hblk]
  have hfre : w.freeze ⟨g, A.size, none⟩ 1 = { w with heap := w.heap.setIfInBounds g (.cells A t fr') } := by
    unfold World.freeze
    rw [if_neg (by decide)]
    congr 1
    apply Array.ext_getElem?
    intro j
    rw [Array.getElem?_modify, Array.getElem?_setIfInBounds]
    by_cases hj : g = j
    · subst hj
      simp only [if_true, hblk, Option.map_some, hlt, hfr]
    · simp [hj]
  unfold convert
  simp only [Sem.run_bind, K.undRun hd, Result.andThen_ok, K.undRun he, hsd, beq_self_eq_true]
  simp [markStringish, hsh, hfre]
/-- a mark, as the evaluator does it -/
theorem mark_spec {y : Tmp} (hm : markE Ty o = some y) (hv : evOp Ty call F h o = some (v, h')) : opd F (.tmp y) = some v ∧ ∃ i x, h.at? i = some x ∧ h' = h.put i x := by
  obtain ⟨_, _, s, d, el, ho, hd, he, _, el', hs⟩ := mark_form hm
  unfold evOp at hv
  rw [ho] at hv
  replace hv : opConv Ty F h s d (.tmp y) = some (v, h') := hv
  unfold opConv at hv
  split at hv
  · rename_i p hp
    unfold evConv at hv
    rw [hs, hd] at hv
    split at hv
    · rename_i h1 h2; cases h2
    · rename_i h1 h2; cases h2
    · rename_i h1 h2; cases h1
    · rename_i h1 h2 _; cases h2
    · split at hv
      · rename_i b _ _ hro
        split at hv
        · rename_i q hq
          split at hv
          · injection hv with hv
            injection hv with e1 e2; subst e1 e2
            exact ⟨hp, _, _, hq, rfl⟩
          · cases hv
        · cases hv
      · cases hv
    · rename_i _ hno _ _ _
      exact (hno _ _ rfl rfl).elim
  · cases hv
/-! ### activations that agree -/
structure Agr (dm : List Tmp) (a b : Act) : Prop where
  size : a.tmps.size = b.tmps.size
  defers : a.defers = b.defers
  at_ : ∀ t, t ∉ dm → a.tmps[t]? = b.tmps[t]?
variable {dm : List Tmp} {ops : Array Oper}
theorem Agr.refl (a : Act) : Agr [] a a := ⟨rfl, rfl, fun _ _ => rfl⟩
theorem Agr.exec (g : Agr dm a b) (hs : ∀ cs q, o.op ≠ .select cs q) (hl : ∀ t ∈ dm, t ∉ o.looksAt ops) : execOp a.eval o = execOp b.eval o :=
  execOp_congr o hs fun x hx => by
    cases x with
    | tmp t =>
      have : t ∉ dm := fun ht => hl t ht (looks_of hx)
      simp only [Act.eval, Array.getD_eq_getD_getElem?, g.at_ t this]
    | const u => rfl
    | global q => rfl
    | func q => rfl
theorem Agr.wanted (g : Agr dm a b) (hl : ∀ t ∈ dm, t ∉ o.looksAt ops) : Region.wanted o (yielded ops a.tmps) = Region.wanted o (yielded ops b.tmps) := by
  unfold Region.wanted
  cases hg : o.guard with
  | none => rfl
  | some gw =>
    obtain ⟨q, want⟩ := gw
    have hy : yielded ops a.tmps q = yielded ops b.tmps q := by
      unfold yielded
      cases ht : (ops[q]?).bind (·.dst) with
      | none => rfl
      | some t =>
        have hne : t ∉ dm := fun h1 => hl t h1 (by simp [Oper.looksAt, hg, ht])
        simp only [Option.bind_some, g.at_ t hne]
    simp only [hy]
theorem Agr.put (g : Agr dm a b) (d : Option Tmp) (u : Value) : Agr dm (a.put d u) (b.put d u) := by
  cases d with
  | none => exact g
  | some d =>
    refine ⟨by show (a.tmps.setIfInBounds d u).size = (b.tmps.setIfInBounds d u).size; simp [g.size], g.defers, fun t ht => ?_⟩
    show (a.tmps.setIfInBounds d u)[t]? = (b.tmps.setIfInBounds d u)[t]?
    by_cases hdt : d = t
    · subst hdt
      rw [Array.getElem?_setIfInBounds, Array.getElem?_setIfInBounds, g.size, if_pos rfl, if_pos rfl]
    · rw [Array.getElem?_setIfInBounds_ne hdt, Array.getElem?_setIfInBounds_ne hdt]; exact g.at_ t ht
theorem Agr.early (g : Agr dm a b) (d : Tmp) (u : Value) : Agr (dm ++ [d]) (a.put (some d) u) b := by
  refine ⟨by show (a.tmps.setIfInBounds d u).size = b.tmps.size; simp [g.size], g.defers, fun t ht => ?_⟩
  rw [List.mem_append, not_or] at ht
  show (a.tmps.setIfInBounds d u)[t]? = b.tmps[t]?
  rw [Array.getElem?_setIfInBounds_ne (fun hh => ht.2 (by rw [hh]; exact List.mem_singleton_self _))]
  exact g.at_ t ht.1
theorem Agr.named (g : Agr dm a b) {d : Tmp} {u : Value} (hu : a.tmps[d]? = some u) {dm' : List Tmp} (hm : ∀ t ∈ dm, t = d ∨ t ∈ dm') : Agr dm' a (b.put (some d) u) := by
  refine ⟨by show a.tmps.size = (b.tmps.setIfInBounds d u).size; simp [g.size], g.defers, fun t ht => ?_⟩
  show a.tmps[t]? = (b.tmps.setIfInBounds d u)[t]?
  by_cases hdt : d = t
  · subst hdt
    have hlt : d < b.tmps.size := by rw [← g.size]; exact (Array.getElem?_eq_some_iff.1 hu).1
    rw [Array.getElem?_setIfInBounds_self_of_lt hlt, hu]
  · rw [Array.getElem?_setIfInBounds_ne hdt]
    exact g.at_ t fun h1 => by
      rcases hm t h1 with h2 | h2
      · exact hdt h2.symm
      · exact ht h2
theorem put_at {d : Tmp} {u : Value} (hd : d < a.tmps.size) : (a.put (some d) u).tmps[d]? = some u := by
  show (a.tmps.setIfInBounds d u)[d]? = _
  rw [Array.getElem?_setIfInBounds_self_of_lt hd]
theorem put_ne {d : Option Tmp} {t : Tmp} {u : Value} (hd : d ≠ some t) : (a.put d u).tmps[t]? = a.tmps[t]? := by
  cases d with
  | none => rfl
  | some d =>
    show (a.tmps.setIfInBounds d u)[t]? = _
    rw [Array.getElem?_setIfInBounds_ne (fun hh => hd (by rw [hh]))]
/-! ### lists of what has come up -/
theorem lst_set (is : List Nat) : ∀ (l : Array Bool) (i : Nat), lst is (l.setIfInBounds i true) = (lst is l).setIfInBounds i true := by
  induction is with
  | nil => intro l i; rfl
  | cons j is ih =>
    intro l i
    show lst is ((l.setIfInBounds i true).setIfInBounds j true) = (lst is (l.setIfInBounds j true)).setIfInBounds i true
    by_cases hij : i = j
    · subst hij
      exact ih _ _
    · rw [Array.setIfInBounds_comm _ _ hij]
      exact ih _ _
theorem lst_app (is js : List Nat) (l : Array Bool) : lst (is ++ js) l = lst js (lst is l) := by
  unfold lst; rw [List.foldl_append]
theorem lst_mid (is js : List Nat) (i : Nat) (l : Array Bool) : lst (is ++ i :: js) l = lst (is ++ js) (l.setIfInBounds i true) := by
  rw [lst_app, lst_app, lst_set]
  show lst js ((lst is l).setIfInBounds i true) = _
  rfl
theorem lst_getD (d : Bool) : ∀ (is : List Nat) (l : Array Bool) (j : Nat), j ∉ is → (lst is l).getD j d = l.getD j d
  | [], _, _, _ => rfl
  | i :: is, l, j, hj => by
    rw [List.mem_cons, not_or] at hj
    show (lst is (l.setIfInBounds i true)).getD j d = _
    rw [lst_getD d is _ j hj.2, getD_set_ne d (Ne.symm hj.1)]
theorem lst_up : ∀ (is : List Nat) (l : Array Bool), Up l (lst is l)
  | [], l => Up.refl l
  | i :: is, l => (Up.set l i).trans (lst_up is _)
theorem lst_mem : ∀ (is : List Nat) (l : Array Bool) (j : Nat), j ∈ is → j < l.size → (lst is l).getD j false = true
  | i :: is, l, j, hj, hs => by
    rcases List.mem_cons.1 hj with rfl | hj
    · exact lst_up is _ _ (by simp [hs])
    · exact lst_mem is _ j hj (by simpa using hs)
theorem lst_size : ∀ (is : List Nat) (l : Array Bool), (lst is l).size = l.size
  | [], _ => rfl
  | i :: is, l => by
    show (lst is (l.setIfInBounds i true)).size = _
    rw [lst_size is, Array.size_setIfInBounds]
/-- how many have not come up -/
def unl (n : Nat) (l : Array Bool) : Nat := ((List.range n).filter fun i => !l.getD i true).length
theorem filter_lt {α : Type} {p q : α → Bool} : ∀ {l : List α} {x : α}, (∀ y, p y = true → q y = true) → x ∈ l → q x = true → p x = false → (l.filter p).length + 1 ≤ (l.filter q).length
  | y :: l, x, hpq, hx, hq, hp => by
    have hle : ∀ l : List α, (l.filter p).length ≤ (l.filter q).length := by
      intro l
      induction l with
      | nil => exact Nat.le_refl _
      | cons z l ih =>
        rw [List.filter_cons, List.filter_cons]
        cases hpz : p z with
        | true => rw [hpq z hpz]; simpa using ih
        | false => cases q z <;> simp <;> omega
    rcases List.mem_cons.1 hx with rfl | hx
    · rw [List.filter_cons, List.filter_cons, hp, hq]
      have := hle l
      simp; omega
    · have ih := filter_lt hpq hx hq hp
      rw [List.filter_cons, List.filter_cons]
      cases hpy : p y with
      | true => rw [hpq y hpy]; simpa using ih
      | false => cases q y <;> simp <;> omega
theorem unl_set {n i : Nat} {l : Array Bool} (hi : i < n) (hl : l.getD i true = false) : unl n (l.setIfInBounds i true) + 1 ≤ unl n l := by
  refine filter_lt (x := i) (fun y hy => ?_) (List.mem_range.2 hi) (by rw [hl]; rfl) ?_
  · by_cases hyi : i = y
    · subst hyi
      rw [hl]; rfl
    · rw [getD_set_ne true hyi] at hy; exact hy
  · have : i < l.size := by
      rcases Nat.lt_or_ge i l.size with h1 | h1
      · exact h1
      · simp [h1] at hl
    simp [this]
end
end Go.Proofs.YtlfljoeafpimpaaGreatDoor
