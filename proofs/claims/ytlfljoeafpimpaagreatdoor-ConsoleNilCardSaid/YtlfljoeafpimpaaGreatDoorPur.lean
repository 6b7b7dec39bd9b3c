/- Oracles of the evaluator: calls whose arguments are plain, told once and for all: an answer that is plain, or one that points at one block of its own. -/
import Derived.Test.YtlfljoeafpimpaaGreatDoorOrc
namespace Go.Proofs.YtlfljoeafpimpaaGreatDoor
open Go.RowKit

def ren1 (b : Nat) : RV → RV
  | .sl _ o n c => .sl b o n c
  | .slu _ o n d => .slu b o n d
  | .ptr _ o => .ptr b o
  | v => v
/-- the answer, its block's name put in -/
def renV (b : Nat) : RV → RV
  | .tup vs => .tup (vs.map (ren1 b))
  | v => ren1 b v
def plain1 : RV → Bool
  | .sl _ _ _ _ => true
  | .slu _ _ _ _ => true
  | .ptr _ _ => true
  | .lit _ => true
  | _ => false
def plainV : RV → Bool
  | .tup vs => vs.all plain1
  | v => plain1 v
def litS : List Seg → Bool
  | [] => true
  | .byt _ _ :: r => litS r
  | .one (.lit _) :: r => litS r
  | .rep (.lit _) _ :: r => litS r
  | _ => false
def litV : RV → Bool
  | .lit _ => true
  | .agg cs => litS cs
  | _ => false
theorem litS_lt : ∀ {cs : List Seg}, litS cs = true → ∀ n, ltS n cs
  | [], _, _ => trivial
  | .byt _ _ :: r, h, n => ⟨trivial, litS_lt (cs := r) h n⟩
  | .one (.lit _) :: r, h, n => ⟨trivial, litS_lt (cs := r) h n⟩
  | .rep (.lit _) _ :: r, h, n => ⟨trivial, litS_lt (cs := r) h n⟩
  | .one (.ptr _ _) :: _, h, _ => by cases h
  | .one (.sl _ _ _ _) :: _, h, _ => by cases h
  | .one (.slu _ _ _ _) :: _, h, _ => by cases h
  | .one (.sle _ _ _ _) :: _, h, _ => by cases h
  | .one (.yld _) :: _, h, _ => by cases h
  | .one (.mp _) :: _, h, _ => by cases h
  | .one (.fn _ _ _) :: _, h, _ => by cases h
  | .one (.ifc _ _) :: _, h, _ => by cases h
  | .one (.agg _) :: _, h, _ => by cases h
  | .one (.tup _) :: _, h, _ => by cases h
  | .one (.rst _ _) :: _, h, _ => by cases h
  | .rep (.ptr _ _) _ :: _, h, _ => by cases h
  | .rep (.sl _ _ _ _) _ :: _, h, _ => by cases h
  | .rep (.slu _ _ _ _) _ :: _, h, _ => by cases h
  | .rep (.sle _ _ _ _) _ :: _, h, _ => by cases h
  | .rep (.yld _) _ :: _, h, _ => by cases h
  | .rep (.mp _) _ :: _, h, _ => by cases h
  | .rep (.fn _ _ _) _ :: _, h, _ => by cases h
  | .rep (.ifc _ _) _ :: _, h, _ => by cases h
  | .rep (.agg _) _ :: _, h, _ => by cases h
  | .rep (.tup _) _ :: _, h, _ => by cases h
  | .rep (.rst _ _) _ :: _, h, _ => by cases h
theorem litV_lt {v : RV} (h : litV v = true) (n : Nat) : RV.lt n v := by
  unfold litV at h
  split at h
  · trivial
  · exact litS_lt h n
  · cases h
theorem litL_lt : ∀ {l : List RV}, l.all litV = true → ∀ n, ltL n l
  | [], _, _ => trivial
  | v :: l, h, n => by
    rw [List.all_cons, Bool.and_eq_true] at h
    exact ⟨litV_lt h.1 n, litL_lt h.2 n⟩
def eqRO : RO → RO → Bool
  | .cells cs t, .cells ds u => eqSS cs ds && Nat.beq t u
  | .row cs t s, .row ds u z => eqSS cs ds && (Nat.beq t u && Nat.beq s z)
  | _, _ => false
theorem eqRO_eq {a b : RO} (h : eqRO a b = true) : a = b := by
  unfold eqRO at h
  split at h
  · rw [Bool.and_eq_true] at h
    rw [eqSS_eq h.1, Nat.eq_of_beq_eq_true h.2]
  · rw [Bool.and_eq_true, Bool.and_eq_true] at h
    rw [eqSS_eq h.1, Nat.eq_of_beq_eq_true h.2.1, Nat.eq_of_beq_eq_true h.2.2]
  · cases h
def litRO : RO → Bool
  | .cells cs _ => litS cs
  | .row cs _ _ => litS cs
  | _ => false
theorem litRO_lt {o : RO} (h : litRO o = true) (n : Nat) : RO.lt n o ∧ ∃ cs t, o.segs = some (cs, t) := by
  cases o with
  | cells cs t => exact ⟨litS_lt (cs := cs) h n, cs, t, rfl⟩
  | row cs t s => exact ⟨litS_lt (cs := cs) h n, cs, t, rfl⟩
  | map es c => cases h
  | lop L => cases h
  | dfr => cases h
  | itr m s q l => cases h
theorem ren1_tr {e f : Nv} {b c : Nat} (h1 : e.at_ b = f.at_ c) (h2 : e.cap b = f.cap c) {v : RV} (hp : plain1 v = true) : RV.tr e (ren1 b v) = RV.tr f (ren1 c v) := by
  cases v <;> first
    | (cases hp; done)
    | simp only [ren1, RV.tr, h1, h2]
theorem ren1_lt {b : Nat} {v : RV} (hp : plain1 v = true) : RV.lt (b + 1) (ren1 b v) := by
  cases v <;> first
    | (cases hp; done)
    | exact Nat.lt_succ_self b
    | trivial
theorem renV_tr {e f : Nv} {b c : Nat} (h1 : e.at_ b = f.at_ c) (h2 : e.cap b = f.cap c) {v : RV} (hp : plainV v = true) : RV.tr e (renV b v) = RV.tr f (renV c v) := by
  cases v with
  | tup vs =>
    replace hp : vs.all plain1 = true := hp
    simp only [renV, RV.tr, trL_map, List.map_map]
    congr 2
    refine List.map_congr_left fun v hv => ren1_tr h1 h2 (List.all_eq_true.1 hp v hv)
  | lit v => rfl
  | ptr x o => exact ren1_tr (v := .ptr x o) h1 h2 rfl
  | sl x o n m => exact ren1_tr (v := .sl x o n m) h1 h2 rfl
  | slu x o n m => exact ren1_tr (v := .slu x o n m) h1 h2 rfl
  | _ => cases hp
theorem renV_lt {b : Nat} {v : RV} (hp : plainV v = true) : RV.lt (b + 1) (renV b v) := by
  cases v with
  | tup vs =>
    replace hp : vs.all plain1 = true := hp
    refine ltL_mem.2 fun u hu => ?_
    obtain ⟨x, hx, rfl⟩ := List.mem_map.1 hu
    exact ren1_lt (List.all_eq_true.1 hp x hx)
  | lit v => trivial
  | ptr x o => exact Nat.lt_succ_self b
  | sl x o n m => exact Nat.lt_succ_self b
  | slu x o n m => exact Nat.lt_succ_self b
  | _ => cases hp
/-- a call told once: arguments, the answer, its block -/
structure Pur where
  xs : List RV
  b : Nat
  v : RV
  ro : Option RO
noncomputable def purO (l : List Pur) : OrcE := fun xs h => List.rec (motive := fun _ => Option (RV × Hp)) none (fun p _ ih => match eqRL xs p.xs with
  | true => match p.ro with
    | none => some (p.v, h)
    | some ro => match h.room with
      | true => some (renV h.nx p.v, h.add ro)
      | false => none
  | false => ih) l
/-- it is so -/
def purOk (r : Option (RV × Hp)) (p : Pur) : Bool := p.xs.all litV && match r with
  | some (v1, h1) => match p.ro with
    | none => litV p.v && eqRV v1 p.v
    | some ro => plainV p.v && (eqRV v1 (renV p.b p.v) && (litRO ro && match h1.at? p.b with
      | some o => eqRO o ro
      | none => false))
  | none => false
section
variable {P : Program} {call : CallE} {f : FuncId}
theorem pur_one (hc : CallOk P call) {p : Pur} (hp : purOk (call.fn f p.xs hE) p = true) {B : Nat → Prop} {w0 : World} {e : Nv} {h : Hp} {w : World} (r : RepH B w0 e h w) {v : RV} {h' : Hp}
    (hv : (match p.ro with
      | none => some (p.v, h)
      | some ro => match h.room with
        | true => some (renV h.nx p.v, h.add ro)
        | false => none) = some (v, h')) : Enters P f ∧ Calls P f (trL e p.xs).toArray w (Gives B w0 e h v h') := by
  unfold purOk at hp
  rw [Bool.and_eq_true] at hp
  obtain ⟨hxs, hp⟩ := hp
  split at hp
  · rename_i v1 h1 hrun
    obtain ⟨hEn, hC⟩ := hc.fn f p.xs e _ v1 h1 w (rep0 w r.envW e) (litL_lt hxs 0) hrun
    refine ⟨hEn, hC.mono fun en w' hg => ?_⟩
    cases en with
    | returned u =>
      obtain ⟨e', hxe, r', hle, hlt, rfl⟩ := hg
      have hb : Below w.heap.size w w' := r'.below.toBelow
      have hk := r.kept hb
      cases hro : p.ro with
      | none =>
        rw [hro] at hp hv
        simp only [Bool.and_eq_true] at hp
        injection hv with hv
        injection hv with h2 h3; subst h2 h3
        have hv1 := eqRV_eq hp.2
        subst hv1
        exact ⟨e, Nv.ext.refl _ _, hk, Nat.le_refl _, litV_lt hp.1 _, RV.tr_ext (n := 0) (fun i hi => absurd hi (Nat.not_lt_zero i)) _ (litV_lt hp.1 0)⟩
      | some ro =>
        rw [hro] at hp hv
        simp only [Bool.and_eq_true] at hp
        obtain ⟨hpl, hv1, hlit, hob⟩ := hp
        have hv1 := eqRV_eq hv1
        split at hob
        · rename_i o ho
          have hob := eqRO_eq hob
          subst hob
          simp only at hv
          split at hv
          · rename_i hroom
            injection hv with hv
            injection hv with h2 h3; subst h2 h3
            obtain ⟨hltn, cs, t, hsg⟩ := litRO_lt hlit 0
            obtain ⟨_, hown, hok, _⟩ := r'.obj p.b o ho
            have hge : w.heap.size ≤ e'.at_ p.b := by
              rcases Nat.lt_or_ge (e'.at_ p.b) w.heap.size with h4 | h4
              · exact (hown h4).elim
              · exact h4
            have hx := Nv.put_ext e h.nx (e'.at_ p.b) (e'.cap p.b)
            have hokC : RO.okC (e.put h.nx (e'.at_ p.b) (e'.cap p.b)) (e'.cap p.b) (w'.heap[e'.at_ p.b]?) o := okC_ext (n := 0) (fun i hi => absurd hi (Nat.not_lt_zero i)) hltn (okC_of hsg hok)
            refine ⟨e.put h.nx (e'.at_ p.b) (e'.cap p.b), hx, hk.name (e'.at_ p.b) (e'.cap p.b) (Hp.room_lt hroom) (fun hlt4 => ?_) (fun i x hi => ?_) (ok_of (by simp [Nv.put]) hokC) (litRO_lt hlit _).1, Nat.le_succ _, renV_lt hpl, ?_⟩
            · have := r.below.size; omega
            · have := r.live hi; omega
            · rw [hv1]
              exact renV_tr (by simp [Nv.put]) (by simp [Nv.put]) hpl
          · cases hv
        · cases hob
    | panicked c => exact hg.elim
    | outgrown => exact hg.elim
  · cases hp
theorem purO_ok (hc : CallOk P call) : ∀ {l : List Pur}, (∀ p ∈ l, purOk (call.fn f p.xs hE) p = true) → ∀ (B : Nat → Prop) (w0 : World), OrcOk P B w0 f (purO l)
  | [], _, _, _ => fun xs e h v h' w r hx hv => by cases hv
  | p :: l, hl, B, w0 => fun xs e h v h' w r hx hv => by
    replace hv : (match eqRL xs p.xs with
      | true => match p.ro with
        | none => some (p.v, h)
        | some ro => match h.room with
          | true => some (renV h.nx p.v, h.add ro)
          | false => none
      | false => purO l xs h) = some (v, h') := hv
    split at hv
    · rename_i heq
      obtain rfl := eqRL_eq heq
      exact pur_one hc (hl p (List.mem_cons_self ..)) r hv
    · exact purO_ok hc (fun q hq => hl q (List.mem_cons_of_mem _ hq)) B w0 xs e h v h' w r hx hv
end
end Go.Proofs.YtlfljoeafpimpaaGreatDoor
