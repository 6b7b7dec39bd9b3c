/- The evaluator's heap: objects by names; what it stands for in a world; reading, writing, making. The evaluator: what the operations do to values and to the heap; each is what the model does. -/
import Derived.Test.YtlfljoeafpimpaaGreatDoorEnv
import Derived.Laws.CopyRow
import Derived.Laws.Tables
import Derived.Laws.NewBlocks
import Derived.Deep.WholeRow
import Derived.Below
import Derived.Laws.IdiomRangeMap
namespace Go.Proofs.YtlfljoeafpimpaaGreatDoor
open Go.RowKit

/-- a loop over a function: its record -/
structure Lp where
  nt : Nat
  T : Tr RV
  ps : Array Tmp
  asg : Code
  body : Code
  st : LoopState
  pend : Option Code
structure Lp.ok (e : Nv) (L : Lp) (r : Loop) : Prop where
  st : r.state = L.st
  pend : r.pending = L.pend
  ps : r.params = L.ps
  asg : r.assign = L.asg
  body : r.body = L.body
  size : r.tmps.size = L.nt
  fullT : ∃ d, full d L.T ∧ L.nt ≤ 2 ^ d
  tmp : ∀ i v, i < L.nt → getR L.T i = some v → r.tmps[i]? = some (RV.tr e v)
inductive RO where
  | cells (cs : List Seg) (t : TypeId)
  | row (cs : List Seg) (t : TypeId) (sz : Nat)
  | map (es : List (RV × RV × Nat)) (clock : Nat)
  | lop (L : Lp)
  | dfr
  | itr (m : Option Nat) (since : Nat) (seen : List Nat) (last : Nat)
def trE (e : Nv) (x : RV × RV × Nat) : MapEntry := ⟨RV.tr e x.1, RV.tr e x.2.1, x.2.2⟩
/-- a frozen range that none of the first n cells is in -/
def frz (fr : Nat × Nat) (n : Nat) : Prop := fr = (0, 0) ∨ n ≤ fr.1
theorem frz_zero (n : Nat) : frz (0, 0) n := .inl rfl
def RO.ok (e : Nv) (b : Nat) (o : Option Obj) : RO → Prop
  | .cells cs t => ∃ fr : Nat × Nat, o = some (.cells (trS e cs).toArray t fr) ∧ frz fr (lenS cs)
  | .row cs t sz => ∃ (sp : List Value) (fr : Nat × Nat), o = some (.cells (trS e cs ++ sp).toArray t fr) ∧ lenS cs + sp.length = e.cap b * sz ∧ frz fr (lenS cs + sp.length)
  | .map es clock => o = some (.map (es.map (trE e)).toArray clock)
  | .lop L => ∃ r, o = some (.loop r) ∧ L.ok e r
  | .dfr => o = some (.deferred (some []))
  | .itr m since seen last => o = some (.mapIter (m.map e.at_) since seen.toArray last)
def RO.lt (n : Nat) : RO → Prop
  | .cells cs _ => ltS n cs
  | .row cs _ _ => ltS n cs
  | .map es _ => ∀ x ∈ es, RV.lt n x.1 ∧ RV.lt n x.2.1
  | .lop L => ∀ i v, i < L.nt → getR L.T i = some v → RV.lt n v
  | .dfr => True
  | .itr m _ _ _ => ∀ b, m = some b → b < n
theorem RO.lt_mono {n m : Nat} (h : n ≤ m) {o : RO} (hl : RO.lt n o) : RO.lt m o := by
  cases o with
  | cells cs t => exact ltS_mono h cs hl
  | row cs t sz => exact ltS_mono h cs hl
  | map es c => exact fun x hx => ⟨RV.lt_mono h _ (hl x hx).1, RV.lt_mono h _ (hl x hx).2⟩
  | lop L => exact fun i v hi hv => RV.lt_mono h v (hl i v hi hv)
  | dfr => trivial
  | itr m s q l => exact fun b hb => Nat.lt_of_lt_of_le (hl b hb) h
theorem RO.ok_ext {n b : Nat} {e f : Nv} (h : Nv.ext n e f) (hb : b < n) {o : RO} (hl : RO.lt n o) {x : Option Obj} (hx : RO.ok e b x o) : RO.ok f b x o := by
  cases o with
  | cells cs t => simp only [RO.ok] at hx ⊢; rw [trS_ext h cs hl]; exact hx
  | row cs t sz => simp only [RO.ok] at hx ⊢; rw [trS_ext h cs hl, (h b hb).2]; exact hx
  | map es c =>
    simp only [RO.ok] at hx ⊢
    rw [hx]
    congr 3
    exact List.map_congr_left fun x hxm => by unfold trE; rw [RV.tr_ext h _ (hl x hxm).1, RV.tr_ext h _ (hl x hxm).2]
  | lop L =>
    obtain ⟨r, h1, k⟩ := hx
    exact ⟨r, h1, k.st, k.pend, k.ps, k.asg, k.body, k.size, k.fullT, fun i v hi hv => by rw [RV.tr_ext h v (hl i v hi hv)]; exact k.tmp i v hi hv⟩
  | dfr => exact hx
  | itr m s q l =>
    simp only [RO.ok] at hx ⊢
    rw [hx]
    cases m with
    | none => rfl
    | some m => simp only [Option.map_some, (h m (hl m rfl)).1]
def RO.segs : RO → Option (List Seg × TypeId)
  | .cells cs t => some (cs, t)
  | .row cs t _ => some (cs, t)
  | _ => none
/-- the same object with other cells (as many) -/
def RO.withS : RO → List Seg → RO
  | .cells _ t, cs => .cells cs t
  | .row _ t sz, cs => .row cs t sz
  | o, _ => o

def HD : Nat := 13
structure Hp where
  nx : Nat
  ob : Tr RO
def Hp.at? (h : Hp) (i : Nat) : Option RO := Tr.get HD h.ob i
def Hp.put (h : Hp) (i : Nat) (o : RO) : Hp := ⟨h.nx, Tr.set HD h.ob i (.leaf o)⟩
def Hp.drop (h : Hp) (i : Nat) : Hp := ⟨h.nx, Tr.set HD h.ob i .nil⟩
def Hp.add (h : Hp) (o : RO) : Hp := ⟨h.nx + 1, Tr.set HD h.ob h.nx (.leaf o)⟩

/-- of the blocks that were there, those of F alone may have turned -/
structure Tn (F : Nat → Prop) (w w' : World) : Prop where
  os : w'.os = w.os
  tape : w'.tape = w.tape
  output : w'.output = w.output
  size : w.heap.size ≤ w'.heap.size
  block : ∀ j, j < w.heap.size → ¬ F j → w'.heap[j]? = w.heap[j]?
theorem Tn.refl (F : Nat → Prop) (w : World) : Tn F w w := ⟨rfl, rfl, rfl, Nat.le_refl _, fun _ _ _ => rfl⟩
theorem Tn.drew {F : Nat → Prop} {a b : World} (h : Tn F a b) : Tn F a b.drew := ⟨h.os, h.tape, h.output, h.size, h.block⟩
theorem Tn.andB {F : Nat → Prop} {a b c : World} (h : Tn F a b) (k : Below b.heap.size b c) : Tn F a c :=
  ⟨k.os.trans h.os, k.tape.trans h.tape, k.output.trans h.output, Nat.le_trans h.size k.size, fun j hj hn => (k.block j (Nat.lt_of_lt_of_le hj h.size)).trans (h.block j hj hn)⟩
theorem Tn.toBelow {w w' : World} (h : Tn (fun _ => False) w w') : Below w.heap.size w w' := ⟨h.os, h.tape, h.output, h.size, fun j hj => h.block j hj id⟩
theorem Tn.alloc {F : Nat → Prop} {a b : World} (h : Tn F a b) (x : Obj) : Tn F a (b.alloc x) := h.andB ((Below.refl b.heap.size b).alloc (Nat.le_refl _) x)
/-- the variables that a run may ask: what they hold, and that nobody turns them -/
def EnvB (B : Nat → Prop) (w0 : World) : Prop := ∀ g, envG g → g < w0.heap.size ∧ ¬ B g ∧ envP g w0.heap[g]?
def EnvW (w : World) : Prop := ∀ g, envG g → g < w.heap.size ∧ envP g w.heap[g]?
theorem EnvW.env {w : World} (h : EnvW w) : EnvB (fun _ => False) w := fun g hg => ⟨(h g hg).1, id, (h g hg).2⟩
/-- a block that may be turned, if it was there -/
def Own (B : Nat → Prop) (w0 : World) (k : Nat) : Prop := k < w0.heap.size → B k
/-- a heap stands for what a world holds in the blocks of B, and in new ones -/
structure RepH (B : Nat → Prop) (w0 : World) (e : Nv) (h : Hp) (w : World) : Prop where
  below : Tn B w0 w
  obj : ∀ i o, h.at? i = some o → i < h.nx ∧ Own B w0 (e.at_ i) ∧ RO.ok e i (w.heap[e.at_ i]?) o ∧ RO.lt h.nx o
  inj : ∀ i j a b, h.at? i = some a → h.at? j = some b → e.at_ i = e.at_ j → i = j
  env : EnvB B w0
theorem at_small {h : Hp} {i : Nat} {o : RO} (hi : h.at? i = some o) : i < 2 ^ HD := by
  rcases Nat.lt_or_ge i (2 ^ HD) with hl | hl
  · exact hl
  · unfold Hp.at? at hi; rw [Tr.get_big _ _ _ hl] at hi; cases hi
theorem put_same {h : Hp} {i : Nat} (o : RO) (hi : i < 2 ^ HD) : (h.put i o).at? i = some o := Tr.get_set_same HD h.ob i o hi
theorem put_other {h : Hp} {i j : Nat} (o : RO) (hi : i < 2 ^ HD) (hn : i ≠ j) : (h.put i o).at? j = h.at? j := Tr.get_set_other HD h.ob i j _ hi hn

section
variable {B : Nat → Prop} {w0 w : World} {e : Nv} {h : Hp}
/-- behind a run: the same of the world there, where but blocks with names may turn -/
theorem RepH.envSub (r : RepH B w0 e h w) {B' : Nat → Prop} (hB : ∀ k, B' k → Own B w0 k) : EnvB B' w := fun g hg => by
  obtain ⟨h1, h2, h3⟩ := r.env g hg
  refine ⟨Nat.lt_of_lt_of_le h1 r.below.size, fun hb => h2 (hB g hb h1), ?_⟩
  rw [r.below.block g h1 h2]; exact h3
theorem RepH.envW (r : RepH B w0 e h w) : EnvW w := fun g hg => by
  obtain ⟨h1, h2, h3⟩ := r.env g hg
  refine ⟨Nat.lt_of_lt_of_le h1 r.below.size, ?_⟩
  rw [r.below.block g h1 h2]; exact h3
theorem RepH.drew (r : RepH B w0 e h w) : RepH B w0 e h w.drew := ⟨r.below.drew, r.obj, r.inj, r.env⟩
/-- the block of an object that has cells -/
theorem RepH.blk (r : RepH B w0 e h w) {i : Nat} {o : RO} {cs : List Seg} {t : TypeId} (hi : h.at? i = some o) (hs : o.segs = some (cs, t)) :
    ∃ (sp : List Value) (fr : Nat × Nat), w.heap[e.at_ i]? = some (.cells (trS e cs ++ sp).toArray t fr) ∧ frz fr (lenS cs + sp.length) := by
  obtain ⟨_, _, hok, _⟩ := r.obj i o hi
  cases o with
  | cells c u =>
    simp only [RO.segs, Option.some.injEq, Prod.mk.injEq] at hs
    obtain ⟨rfl, rfl⟩ := hs
    obtain ⟨fr, h1, h2⟩ := hok
    exact ⟨[], fr, by rw [List.append_nil]; exact h1, h2⟩
  | row c u sz =>
    simp only [RO.segs, Option.some.injEq, Prod.mk.injEq] at hs
    obtain ⟨rfl, rfl⟩ := hs
    obtain ⟨sp, fr, h1, _, h2⟩ := hok
    exact ⟨sp, fr, h1, h2⟩
  | map es c => cases hs
  | lop L => cases hs
  | dfr => cases hs
  | itr m s q l => cases hs
theorem RepH.inScope (r : RepH B w0 e h w) {i : Nat} {o : RO} {cs : List Seg} {t : TypeId} (hi : h.at? i = some o) (hs : o.segs = some (cs, t)) : ltS h.nx cs := by
  obtain ⟨_, _, _, hl⟩ := r.obj i o hi
  cases o with
  | cells c u => simp only [RO.segs, Option.some.injEq, Prod.mk.injEq] at hs; rw [← hs.1]; exact hl
  | row c u sz => simp only [RO.segs, Option.some.injEq, Prod.mk.injEq] at hs; rw [← hs.1]; exact hl
  | map es c => cases hs
  | lop L => cases hs
  | dfr => cases hs
  | itr m s q l => cases hs
/-- reading -/
theorem RepH.range (r : RepH B w0 e h w) {i : Nat} {o : RO} {cs : List Seg} {t : TypeId} (hi : h.at? i = some o) (hs : o.segs = some (cs, t)) (a : Nat) : w.rangeAt (e.at_ i) a (trS e (dropS cs a)) := fun j v hv => by
  obtain ⟨sp, fr, hb, _⟩ := r.blk hi hs
  rw [cell_of_row w (e.at_ i) (a + j) _ _ _ hb]
  rw [dropS_tr, List.getElem?_drop] at hv
  simp only [List.getElem?_toArray]
  rw [List.getElem?_append_left (List.getElem?_eq_some_iff.1 hv).1]
  exact hv
theorem rangeAt_take {w : World} {b o : Nat} {l : List Value} (n : Nat) (hr : w.rangeAt b o l) : w.rangeAt b o (l.take n) := fun j v hv => by
  rw [List.getElem?_take] at hv
  split at hv
  · exact hr j v hv
  · cases hv
theorem RepH.read (r : RepH B w0 e h w) {i : Nat} {o : RO} {cs : List Seg} {t : TypeId} (hi : h.at? i = some o) (hs : o.segs = some (cs, t)) (a n : Nat) : w.rangeAt (e.at_ i) a (trS e (takeS (dropS cs a) n)) := by
  rw [takeS_tr]
  exact rangeAt_take n (r.range hi hs a)
/-- another row in an object's place -/
theorem RepH.setRow (r : RepH B w0 e h w) {i : Nat} {o o' : RO} {L K : List Value} {t : TypeId} {fr : Nat × Nat} (hi : h.at? i = some o) (hb : w.heap[e.at_ i]? = some (.cells L.toArray t fr))
    (hok : RO.ok e i (some (.cells K.toArray t fr)) o') (hl : RO.lt h.nx o') : RepH B w0 e (h.put i o') (w.setRow (e.at_ i) K.toArray) := by
  have hsm := at_small hi
  obtain ⟨hin, hBi, _, _⟩ := r.obj i o hi
  have hsz : (w.setRow (e.at_ i) K.toArray).heap.size = w.heap.size := by simp [World.setRow]
  refine ⟨⟨r.below.os, r.below.tape, r.below.output, by rw [hsz]; exact r.below.size, fun k hk hk' => ?_⟩, fun j a hj => ?_, fun j k a b hj hk hjk => ?_, r.env⟩
  · rw [setRow_other w _ k _ (fun hh => hk' (by rw [hh] at hk ⊢; exact hBi hk))]; exact r.below.block k hk hk'
  · by_cases hij : i = j
    · subst hij
      rw [put_same o' hsm] at hj
      injection hj with hj
      subst hj
      exact ⟨hin, hBi, by rw [setRow_heap w _ _ _ _ _ hb]; exact hok, hl⟩
    · rw [put_other o' hsm hij] at hj
      obtain ⟨h1, h2, h3, h4⟩ := r.obj j a hj
      refine ⟨h1, h2, ?_, h4⟩
      rw [setRow_other w _ _ _ (fun hh => hij (r.inj i j o a hi hj hh.symm))]
      exact h3
  · have g : ∀ m x, (h.put i o').at? m = some x → ∃ y, h.at? m = some y := fun m x hm => by
      by_cases him : i = m
      · subst him; exact ⟨o, hi⟩
      · rw [put_other o' hsm him] at hm; exact ⟨x, hm⟩
    obtain ⟨y, hy⟩ := g j a hj
    obtain ⟨z, hz⟩ := g k b hk
    exact r.inj j k y z hy hz hjk
/-- another object that is no row in an object's place -/
theorem RepH.setObj (r : RepH B w0 e h w) {i : Nat} {o o' : RO} {x : Obj} (hi : h.at? i = some o)
    (hok : RO.ok e i (some x) o') (hl : RO.lt h.nx o') : RepH B w0 e (h.put i o') { w with heap := w.heap.setIfInBounds (e.at_ i) x } := by
  have hsm := at_small hi
  obtain ⟨hin, hBi, hoki, _⟩ := r.obj i o hi
  have hlt : e.at_ i < w.heap.size := by
    rcases Nat.lt_or_ge (e.at_ i) w.heap.size with h1 | h1
    · exact h1
    · rw [Array.getElem?_eq_none h1] at hoki
      cases o <;> simp [RO.ok] at hoki
  have hsz : (w.heap.setIfInBounds (e.at_ i) x).size = w.heap.size := by simp
  have hother : ∀ k, k ≠ e.at_ i → (w.heap.setIfInBounds (e.at_ i) x)[k]? = w.heap[k]? := fun k hk => by
    rw [Array.getElem?_setIfInBounds]; simp [Ne.symm hk]
  refine ⟨⟨r.below.os, r.below.tape, r.below.output, by show w0.heap.size ≤ (w.heap.setIfInBounds (e.at_ i) x).size; rw [hsz]; exact r.below.size, fun k hk hk' => ?_⟩, fun j a hj => ?_, fun j k a b hj hk hjk => ?_, r.env⟩
  · show (w.heap.setIfInBounds (e.at_ i) x)[k]? = _
    rw [hother k (fun hh => hk' (by rw [hh] at hk ⊢; exact hBi hk))]; exact r.below.block k hk hk'
  · by_cases hij : i = j
    · subst hij
      rw [put_same o' hsm] at hj
      injection hj with hj
      subst hj
      refine ⟨hin, hBi, ?_, hl⟩
      show RO.ok e i ((w.heap.setIfInBounds (e.at_ i) x)[e.at_ i]?) o'
      rw [Array.getElem?_setIfInBounds]; simp [hlt]; exact hok
    · rw [put_other o' hsm hij] at hj
      obtain ⟨h1, h2, h3, h4⟩ := r.obj j a hj
      refine ⟨h1, h2, ?_, h4⟩
      show RO.ok e j ((w.heap.setIfInBounds (e.at_ i) x)[e.at_ j]?) a
      rw [hother _ (fun hh => hij (r.inj i j o a hi hj hh.symm))]
      exact h3
  · have g : ∀ m x, (h.put i o').at? m = some x → ∃ y, h.at? m = some y := fun m x hm => by
      by_cases him : i = m
      · subst him; exact ⟨o, hi⟩
      · rw [put_other o' hsm him] at hm; exact ⟨x, hm⟩
    obtain ⟨y, hy⟩ := g j a hj
    obtain ⟨z, hz⟩ := g k b hk
    exact r.inj j k y z hy hz hjk
/-- a name gone -/
theorem RepH.drop (r : RepH B w0 e h w) {i : Nat} (hi : i < 2 ^ HD) : RepH B w0 e (h.drop i) w := by
  have g : ∀ m x, (h.drop i).at? m = some x → h.at? m = some x := fun m x hm => by
    by_cases him : i = m
    · subst him
      have : (h.drop i).at? i = none := Tr.get_set_nil HD h.ob i hi
      rw [this] at hm; cases hm
    · have : (h.drop i).at? m = h.at? m := Tr.get_set_other HD h.ob i m _ hi him
      rw [this] at hm; exact hm
  exact ⟨r.below, fun j o hj => r.obj j o (g j o hj), fun j k a b hj hk => r.inj j k a b (g j a hj) (g k b hk), r.env⟩
def Nv.put (e : Nv) (i a c : Nat) : Nv := ⟨fun j => if j = i then a else e.at_ j, fun j => if j = i then c else e.cap j⟩
theorem Nv.put_ext (e : Nv) (i a c : Nat) : Nv.ext i e (e.put i a c) := fun j hj => by
  have : j ≠ i := by omega
  simp [Nv.put, this]
/-- a new name for a block that no name has -/
theorem RepH.name (r : RepH B w0 e h w) {o : RO} (a c : Nat) (hn : h.nx < 2 ^ HD) (hB : Own B w0 a) (hfree : ∀ i x, h.at? i = some x → e.at_ i ≠ a)
    (hok : RO.ok (e.put h.nx a c) h.nx (w.heap[a]?) o) (hl : RO.lt (h.nx + 1) o) : RepH B w0 (e.put h.nx a c) (h.add o) w := by
  have hx := Nv.put_ext e h.nx a c
  have hsame : (h.add o).at? h.nx = some o := Tr.get_set_same HD h.ob h.nx o hn
  have hoth : ∀ j, h.nx ≠ j → (h.add o).at? j = h.at? j := fun j hj => Tr.get_set_other HD h.ob h.nx j _ hn hj
  have hat : (e.put h.nx a c).at_ h.nx = a := by simp [Nv.put]
  have hato : ∀ j, h.nx ≠ j → (e.put h.nx a c).at_ j = e.at_ j := fun j hj => by simp [Nv.put, Ne.symm hj]
  refine ⟨r.below, fun j x hj => ?_, fun j k x y hj hk hjk => ?_, r.env⟩
  · by_cases hij : h.nx = j
    · subst hij
      rw [hsame] at hj
      injection hj with hj
      subst hj
      rw [hat]
      exact ⟨Nat.lt_succ_self _, hB, hok, hl⟩
    · rw [hoth j hij] at hj
      obtain ⟨h1, h2, h3, h4⟩ := r.obj j x hj
      rw [hato j hij]
      exact ⟨Nat.lt_succ_of_lt h1, h2, RO.ok_ext hx h1 h4 h3, RO.lt_mono (Nat.le_succ _) h4⟩
  · by_cases hij : h.nx = j <;> by_cases hik : h.nx = k
    · omega
    · subst hij
      rw [hat, hato k hik] at hjk
      rw [hoth k hik] at hk
      exact absurd hjk.symm (hfree k y hk)
    · subst hik
      rw [hat, hato j hij] at hjk
      rw [hoth j hij] at hj
      exact absurd hjk (hfree j x hj)
    · rw [hoth j hij] at hj
      rw [hoth k hik] at hk
      rw [hato j hij, hato k hik] at hjk
      exact r.inj j k x y hj hk hjk
theorem RepH.live (r : RepH B w0 e h w) {i : Nat} {o : RO} (hi : h.at? i = some o) : e.at_ i < w.heap.size := by
  obtain ⟨_, _, hok, _⟩ := r.obj i o hi
  rcases Nat.lt_or_ge (e.at_ i) w.heap.size with h1 | h1
  · exact h1
  · rw [Array.getElem?_eq_none h1] at hok
    cases o <;> simp [RO.ok] at hok
/-- a block made -/
theorem RepH.make (r : RepH B w0 e h w) {o : RO} {x : Obj} (c : Nat) (hn : h.nx < 2 ^ HD)
    (hok : RO.ok (e.put h.nx w.heap.size c) h.nx (some x) o) (hl : RO.lt (h.nx + 1) o) : RepH B w0 (e.put h.nx w.heap.size c) (h.add o) (w.alloc x) := by
  have r2 : RepH B w0 e h (w.alloc x) := ⟨r.below.alloc x, fun i o hi => by
    obtain ⟨h1, h2, h3, h4⟩ := r.obj i o hi
    refine ⟨h1, h2, ?_, h4⟩
    rw [heap_alloc_old w x (r.live hi)]
    exact h3, r.inj, r.env⟩
  exact r2.name w.heap.size c hn (fun hlt => absurd hlt (Nat.not_lt.2 r.below.size)) (fun i y hi => Nat.ne_of_lt (r.live hi)) (by rw [heap_alloc_new]; exact hok) hl
end
end Go.Proofs.YtlfljoeafpimpaaGreatDoor
namespace Go.Proofs.YtlfljoeafpimpaaGreatDoor
open Go.RowKit

/-! ### types -/
structure TyOk (P : Program) (Ty : Tr TypeInfo) : Prop where
  info : ∀ t i, Tr.get 10 Ty t = some i → P.info? t = some i
def undE (Ty : Tr TypeInfo) (t : TypeId) : Option TypeDesc :=
  match Tr.get 10 Ty t with
  | some i => match i.desc with
    | .named _ u => (Tr.get 10 Ty u).map (·.desc)
    | d => some d
  | none => none
def szE (Ty : Tr TypeInfo) (t : TypeId) : Option Nat := (Tr.get 10 Ty t).map (·.size)
section
variable {P : Program} {Ty : Tr TypeInfo}
theorem TyOk.und (K : TyOk P Ty) {t : TypeId} {d : TypeDesc} (h : undE Ty t = some d) : P.underlying t = some d := by
  unfold undE at h
  cases hi : Tr.get 10 Ty t with
  | none => rw [hi] at h; cases h
  | some i =>
    rw [hi] at h
    have h1 := K.info t i hi
    unfold Program.underlying
    rw [h1]
    obtain ⟨desc, a1, a2, a3, a4, a5, a6, a7, a8, a9⟩ := i
    cases desc
    case named nm u =>
      simp only at h ⊢
      cases hu : Tr.get 10 Ty u with
      | none => rw [hu] at h; cases h
      | some j =>
        rw [hu] at h
        rw [K.info u j hu]
        exact h
    all_goals
      simp only at h ⊢
      exact h
theorem TyOk.sz (K : TyOk P Ty) {t : TypeId} {n : Nat} (h : szE Ty t = some n) : ∃ i, P.info? t = some i ∧ i.size = n := by
  unfold szE at h
  cases hi : Tr.get 10 Ty t with
  | none => rw [hi] at h; cases h
  | some i => rw [hi] at h; exact ⟨i, K.info t i hi, by simpa using h⟩
theorem TyOk.size (K : TyOk P Ty) {t : TypeId} {n : Nat} (h : szE Ty t = some n) (w : World) : (sizeOf t).run P w = .ok n w := by
  obtain ⟨i, h1, h2⟩ := K.sz h
  simp [sizeOf, typeInfo, h1, h2]
theorem TyOk.undRun (K : TyOk P Ty) {t : TypeId} {d : TypeDesc} (h : undE Ty t = some d) (w : World) : (underlying t).run P w = .ok d w := run_underlying (K.und h) w
def aggE (Ty : Tr TypeInfo) (t : TypeId) : Option Bool := (undE Ty t).map fun d => match d with
  | .struct _ => true
  | .array _ _ => true
  | _ => false
theorem TyOk.agg (K : TyOk P Ty) {t : TypeId} {b : Bool} (h : aggE Ty t = some b) (w : World) : (isAgg t).run P w = .ok b w := by
  unfold aggE at h
  cases hu : undE Ty t with
  | none => rw [hu] at h; cases h
  | some d =>
    rw [hu] at h
    unfold isAgg
    rw [Sem.run_bind, K.undRun hu w]
    simp only [Option.map_some, Option.some.injEq] at h
    subst h
    cases d <;> simp

/-! ### what an operation comes to -/
/-- the operation yields a value (or nothing), and leaves a world that the next heap stands for -/
def OpR (P : Program) (B : Nat → Prop) (w0 : World) (e : Nv) (h : Hp) (a : Act) (o : Oper) (w : World) (v : RV) (h' : Hp) : Prop :=
  ∃ e' w', ((execOp a.eval o).run P w = .ok (.value (RV.tr e' v)) w' ∨ ((execOp a.eval o).run P w = .ok .skip w' ∧ v = .lit undef)) ∧ Nv.ext h.nx e e' ∧ RepH B w0 e' h' w' ∧ h.nx ≤ h'.nx ∧ RV.lt h'.nx v
theorem OpR.same {B : Nat → Prop} {w0 w : World} {e : Nv} {h : Hp} {a : Act} {o : Oper} {v : RV} (r : RepH B w0 e h w) (hr : (execOp a.eval o).run P w = .ok (.value (RV.tr e v)) w) (hl : RV.lt h.nx v) : OpR P B w0 e h a o w v h :=
  ⟨e, w, .inl hr, Nv.ext.refl _ _, r, Nat.le_refl _, hl⟩

/-- the operation yields a value and does nothing else -/
def QR (P : Program) (e : Nv) (h : Hp) (a : Act) (o : Oper) (w : World) (v : RV) : Prop := (execOp a.eval o).run P w = .ok (.value (RV.tr e v)) w ∧ RV.lt h.nx v
theorem QR.opR {B : Nat → Prop} {w0 w : World} {e : Nv} {h h' : Hp} {a : Act} {o : Oper} {v : RV} (r : RepH B w0 e h w) (q : QR P e h a o w v ∧ h' = h) : OpR P B w0 e h a o w v h' := by
  obtain ⟨⟨h1, h2⟩, rfl⟩ := q
  exact .same r h1 h2
/-! ### cells of values -/
def RV.segs : RV → List Seg
  | .agg cs => cs
  | v => [.one v]
theorem RV.cells_tr (e : Nv) (v : RV) (hv : ∀ u, v = .lit u → u.cells = #[u]) : (RV.tr e v).cells.toList = trS e v.segs := by
  cases v <;> simp [RV.tr, RV.segs, Value.cells, trS, Seg.tr]
  rename_i u
  have := hv u rfl
  unfold Value.cells at this
  rw [this]
/-- one cell's value -/
def oneOf : List Seg → Option RV
  | [.one v] => some v
  | [.byt n 1] => some (.lit (.int .u8 ((n % 256 : Nat) : Int)))
  | [.rep v 1] => some v
  | _ => none
theorem oneOf_tr (e : Nv) {l : List Seg} {v : RV} (h : oneOf l = some v) : trS e l = [RV.tr e v] := by
  unfold oneOf at h
  split at h
  · cases h; rfl
  · cases h; simp [trS, Seg.tr, bytV, byV, RV.tr, List.range_succ]
  · cases h; rfl
  · cases h
theorem oneOf_lt {n : Nat} {l : List Seg} {v : RV} (h : oneOf l = some v) (hl : ltS n l) : RV.lt n v := by
  unfold oneOf at h
  split at h
  · cases h; exact hl.1
  · cases h; trivial
  · cases h; exact hl.1
  · cases h
theorem takeS_lt {n : Nat} : ∀ {l : List Seg} (o : Nat), ltS n l → ltS n (takeS l o)
  | _, 0, _ => by unfold takeS; exact trivial
  | [], _ + 1, _ => trivial
  | s :: r, o + 1, h => by
    unfold takeS
    split
    · exact ⟨h.1, takeS_lt _ h.2⟩
    · refine ⟨?_, trivial⟩
      cases s <;> exact h.1
theorem dropS_lt {n : Nat} : ∀ {l : List Seg} (o : Nat), ltS n l → ltS n (dropS l o)
  | [], 0, h => h
  | [], _ + 1, _ => trivial
  | s :: r, 0, h => h
  | s :: r, o + 1, h => by
    unfold dropS
    split
    · exact dropS_lt _ h.2
    · refine ⟨?_, h.2⟩
      cases s <;> exact h.1

/-! ### load -/
def evLoad (Ty : Tr TypeInfo) (h : Hp) (t : TypeId) : RV → Option RV
  | .ptr b o => match h.at? b with
    | none => none
    | some x => match x.segs with
      | none => none
      | some (cs, _) => match szE Ty t, aggE Ty t with
        | some n, some true => match Nat.beq (lenS (takeS (dropS cs o) n)) n with
          | true => some (.agg (takeS (dropS cs o) n))
          | false => none
        | some _, some false => oneOf (takeS (dropS cs o) 1)
        | _, _ => none
  | _ => none
theorem evLoad_run (K : TyOk P Ty) {B : Nat → Prop} {w0 w : World} {e : Nv} {h : Hp} (r : RepH B w0 e h w) {t : TypeId} {x v : RV} (hv : evLoad Ty h t x = some v) :
    (Instr.loadAt t (RV.tr e x)).run P w = .ok (RV.tr e v) w ∧ RV.lt h.nx v := by
  unfold evLoad at hv
  split at hv
  · rename_i b o
    cases hb : h.at? b with
    | none => rw [hb] at hv; cases hv
    | some y =>
      rw [hb] at hv
      simp only at hv
      cases hs : y.segs with
      | none => rw [hs] at hv; cases hv
      | some cst =>
        obtain ⟨cs, ct⟩ := cst
        rw [hs] at hv
        simp only at hv
        have hl := r.inScope hb hs
        split at hv
        · rename_i n hn ha
          split at hv
          · rename_i hlen
            injection hv with hv
            subst hv
            have hlen := Nat.eq_of_beq_eq_true hlen
            have hr := r.read hb hs o n
            obtain ⟨i, hi1, hi2⟩ := K.sz hn
            refine ⟨?_, takeS_lt _ (dropS_lt _ hl)⟩
            have hc := run_loadCells_list (P := P) (w := w) ⟨e.at_ b, o, none⟩ (trS e (takeS (dropS cs o) n)) (fun j v hv => by rw [Addr.add_mid]; exact hr j v hv)
            rw [trS_len, hlen] at hc
            simp only [RV.tr, Instr.loadAt, Instr.sureAddr, Sem.run_bind, Sem.run_pure, Result.andThen_ok, loadVar, K.agg ha, K.size hn, hc, if_true]
          · cases hv
        · rename_i n hn ha
          have hr := r.read hb hs o 1
          have h1 := oneOf_tr e hv
          refine ⟨?_, oneOf_lt hv (takeS_lt _ (dropS_lt _ hl))⟩
          rw [h1] at hr
          have hc := hr 0 _ rfl
          simp only [Nat.add_zero] at hc
          simp only [RV.tr, Instr.loadAt, Instr.sureAddr, Sem.run_bind, Sem.run_pure, Result.andThen_ok, loadVar, K.agg ha]
          simp [load, Sem.run, hc]
        · cases hv
  · cases hv
end
end Go.Proofs.YtlfljoeafpimpaaGreatDoor
