/- The evaluator with all oracles of Go's library. A disk after a crash: all ends of the copying of its files in whatever order; they are alike to whoever asks not what the files hold. The evaluator with all oracles of Go's library, and the crash of a disk. -/
import Derived.Test.YtlfljoeafpimpaaGreatDoorRno
import Derived.Test.YtlfljoeafpimpaaGreatDoorOco
import Derived.Test.YtlfljoeafpimpaaGreatDoorSrs
import Derived.Test.YtlfljoeafpimpaaGreatDoorMuc
import Derived.Test.YtlfljoeafpimpaaGreatDoorTold
namespace Go.Proofs.YtlfljoeafpimpaaGreatDoor
open Go.RowKit

noncomputable def orcT : Tr OrcE :=
  Tr.set 10 (Tr.set 10 (Tr.set 10 (Tr.set 10 (Tr.set 10 (Tr.set 10 (Tr.set 10 (Tr.set 10 orcS 67 (.leaf idxO)) 25 (.leaf ccO)) 115 (.leaf ndO)) 124 (.leaf teO)) 274 (.leaf cntO))
    113 (.leaf joinO)) 18 (.leaf bsO)) 239 (.leaf sortSO)
noncomputable def runT : CallE := evCall TyL dnoS flatS FnL PtL orcT 5000 40
theorem orcT_ok (f : FuncId) (g : OrcE) (h : Tr.get 10 orcT f = some g) (B : Nat → Prop) (w0 : World) : OrcOk Tryz.prog B w0 f g := by
  unfold orcT at h
  rcases get_set_or (by decide) h with ⟨rfl, rfl⟩ | h
  · exact sortSO_ok B w0
  rcases get_set_or (by decide) h with ⟨rfl, rfl⟩ | h
  · exact bsO_ok B w0
  rcases get_set_or (by decide) h with ⟨rfl, rfl⟩ | h
  · exact joinO_ok B w0
  rcases get_set_or (by decide) h with ⟨rfl, rfl⟩ | h
  · exact cntO_ok B w0
  rcases get_set_or (by decide) h with ⟨rfl, rfl⟩ | h
  · exact teO_ok B w0
  rcases get_set_or (by decide) h with ⟨rfl, rfl⟩ | h
  · exact ndO_ok B w0
  rcases get_set_or (by decide) h with ⟨rfl, rfl⟩ | h
  · exact ccO_ok B w0
  rcases get_set_or (by decide) h with ⟨rfl, rfl⟩ | h
  · exact idxO_ok B w0
  · exact orcOk f g h B w0
theorem runT_ok : CallOk Tryz.prog runT := evCall_run tyOk ptOk fnOk orcT_ok (fun _ hc => snd tyOk hc) follows dnoOk flatOk 40
end Go.Proofs.YtlfljoeafpimpaaGreatDoor
namespace Go.Proofs.YtlfljoeafpimpaaGreatDoor
open Go.RowKit

/-! ### what is in reach -/
def namesO : RO → List Nat
  | .cells cs _ => namesS cs
  | .row cs _ _ => namesS cs
  | .map es _ => es.flatMap fun x => nameV x.2.1
  | _ => []
def namesH (h : Hp) : List Nat → List Nat
  | [] => []
  | i :: l => match h.at? i with
    | some o => namesO o ++ namesH h l
    | none => namesH h l
def reachH (h : Hp) : Nat → List Nat → List Nat
  | 0, _ => []
  | k + 1, l => l ++ reachH h k (namesH h l)
/-! ### the copy, and the crash -/
noncomputable def copyM : CallM := fun f => match Nat.beq f 225 with
  | true => some (runM TyL dnoS runT 5000 (ptOf PtL 225) (fun _ => none) Tryz.f225)
  | false => none
noncomputable def crashM : List RV → Hp → Option (List (RV × Hp)) := runM TyL dnoS runT 5000 (ptOf PtL 223) copyM Tryz.f223
theorem copyM_ok : CallMOk Tryz.prog copyM := by
  intro f g h
  unfold copyM at h
  split at h
  · rename_i hf
    injection h with h; subst h
    obtain rfl := Nat.eq_of_beq_eq_true hf
    exact runM_ok tyOk (snd tyOk runT_ok) runT_ok follows dnoOk (fun _ _ h => by cases h) Tryz.func225 ⟨Tryz.f225, Tryz.func225, by kernel_rfl, by kernel_rfl⟩
  · cases h
theorem crash_enters : Enters Tryz.prog 223 := ⟨Tryz.f223, Tryz.func223, by kernel_rfl, by kernel_rfl⟩
theorem crashM_ok : ManyOk Tryz.prog 223 crashM :=
  runM_ok tyOk (snd tyOk runT_ok) runT_ok follows dnoOk copyM_ok Tryz.func223 crash_enters
/-! ### each end is such a disk -/
noncomputable def sameP (h k : Hp) (i : Nat) : Bool := match h.at? i with
  | none => true
  | some x => match k.at? i with
    | some y => eqOb y x
    | none => false
def dskS (a : Value) (m : Nat) (u : Value) : List Seg := [.one (.lit a), .one (.mp m), .one (.lit u), .one (.lit (.int .i64 (.negSucc 0))), .one (.lit (.bool false)), .one (.lit (.int .i64 (.ofNat 0)))]
noncomputable def endC (h : Hp) (fp : List Nat) (a u : Value) (t : TypeId) (o : RV × Hp) : Bool := match o.1 with
  | .ptr c 0 => match o.2.at? c with
    | some (.cells [.one (.lit a'), .one (.mp _), .one (.lit u'), x, y, z] t') => match Nat.ble h.nx c, Nat.ble h.nx o.2.nx, eqSS [.one (.lit a'), .one (.lit u'), x, y, z] [.one (.lit a), .one (.lit u), .one (.lit (.int .i64 (.negSucc 0))), .one (.lit (.bool false)), .one (.lit (.int .i64 (.ofNat 0)))], Nat.beq t' t, fp.all (sameP h o.2) with
      | true, true, true, true, true => true
      | _, _, _, _, _ => false
    | _ => false
  | _ => false
noncomputable def crashO : OrcE := fun xs h => match xs with
  | .ptr d 0 :: _ => match h.at? d, h.room with
    | some (.cells (.one (.lit a) :: .one (.mp _) :: .one (.lit u) :: _) t), true => match crashM xs (subH h (reachH h 9 [d])) with
      | some outs => match outs.all (endC h (reachH h 9 [d]) a u t) with
        | true => some (.ptr h.nx 0, ⟨h.nx + 2, (h.add (.cells (dskS a (h.nx + 1) u) t)).ob⟩)
        | false => none
      | none => none
    | _, _ => none
  | _ => none
theorem sameP_ok {h k : Hp} {i : Nat} {o : RO} (hs : sameP h k i = true) (hi : h.at? i = some o) : k.at? i = some o := by
  unfold sameP at hs
  rw [hi] at hs
  simp only at hs
  split at hs
  · rename_i y hy
    rw [hy, eqOb_eq hs]
  · cases hs
theorem crash_one {B : Nat → Prop} {w0 w w' : World} {e e1 : Nv} {h k : Hp} {fp : List Nat} {a u : Value} {t : TypeId} {v : RV} (r : RepH B w0 e h w) (hroom : h.room = true) (hx : Nv.ext h.nx e e1) (r5 : RepH (foot h fp e) w e1 k w') (he : endC h fp a u t (v, k) = true) :
    Gives B w0 e h (.ptr h.nx 0) ⟨h.nx + 2, (h.add (.cells (dskS a (h.nx + 1) u) t)).ob⟩ (.returned (RV.tr e1 v)) w' := by
  unfold endC at he
  split at he
  · rename_i c hv
    obtain rfl : v = .ptr c 0 := hv
    split at he
    · rename_i a' m u' x y z t' hc
      replace hc : k.at? c = some (.cells [.one (.lit a'), .one (.mp m), .one (.lit u'), x, y, z] t') := hc
      split at he
      · rename_i h1 h2 h3 h4 h5
        have h1 := Nat.le_of_ble_eq_true h1
        have h2 : h.nx ≤ k.nx := Nat.le_of_ble_eq_true h2
        have h3 := eqSS_eq h3
        have h4 := Nat.eq_of_beq_eq_true h4
        have h5 : ∀ i ∈ fp, sameP h k i = true := List.all_eq_true.1 h5
        injection h3 with e1' h3; injection h3 with e2' h3; injection h3 with e3' h3; injection h3 with e4' h3; injection h3 with e5' h3
        injection e1' with e1'; injection e1' with e1'
        injection e2' with e2'; injection e2' with e2'
        have e1' := e1'.symm; have e2' := e2'.symm; have h4 := h4.symm
        subst e1' e2' e3' e4' e5' h4
        obtain ⟨hcn, hcown, hcok, _⟩ := r5.obj c _ hc
        obtain ⟨fr, hblk, hfrz⟩ := hcok
        have hnotB : ∀ i o, h.at? i = some o → i ∉ fp → ¬ foot h fp e (e.at_ i) := by
          rintro i o hi hil ⟨j, o2, hj, ho2, hee⟩
          have := r.inj i j o o2 hi ho2 hee
          subst this; exact hil hj
        have hown : ∀ j, foot h fp e j → Own B w0 j := by
          rintro j ⟨i, o, hi, ho, rfl⟩
          exact (r.obj i o ho).2.1
        -- the disk's block is none of the old ones
        have hnew : ∀ i o, h.at? i = some o → e.at_ i ≠ e1.at_ c := fun i o hi hee => by
          obtain ⟨k1, _, _, _⟩ := r.obj i o hi
          by_cases hf : i ∈ fp
          · have h6 := sameP_ok (h5 i hf) hi
            have := r5.inj i c _ _ h6 hc (by rw [(hx i k1).1]; exact hee)
            omega
          · have hlive := r.live hi
            rw [hee] at hlive
            have h7 := hcown hlive
            rw [← hee] at h7
            exact hnotB i o hi hf h7
        -- names as they are told
        have hx2 : Nv.ext h.nx e ((e.put h.nx (e1.at_ c) 0).put (h.nx + 1) (e1.at_ m) 0) := (Nv.put_ext e h.nx _ _).trans (Nv.put_ext _ (h.nx + 1) _ _) (Nat.le_succ _)
        have hat0 : ((e.put h.nx (e1.at_ c) 0).put (h.nx + 1) (e1.at_ m) 0).at_ h.nx = e1.at_ c := by
          simp [Nv.put]
        have hat1 : ((e.put h.nx (e1.at_ c) 0).put (h.nx + 1) (e1.at_ m) 0).at_ (h.nx + 1) = e1.at_ m := by
          simp [Nv.put]
        generalize hgen : (e.put h.nx (e1.at_ c) 0).put (h.nx + 1) (e1.at_ m) 0 = e2 at hx2 hat0 hat1
        have cls : ∀ i o, (⟨h.nx + 2, (h.add (.cells (dskS a (h.nx + 1) u) t)).ob⟩ : Hp).at? i = some o → (i = h.nx ∧ o = .cells (dskS a (h.nx + 1) u) t) ∨ h.at? i = some o := fun i o hi => by
          have hi : Tr.get HD (Tr.set HD h.ob h.nx (.leaf (.cells (dskS a (h.nx + 1) u) t))) i = some o := hi
          by_cases hin : h.nx = i
          · subst hin
            rw [Tr.get_set_same HD _ _ _ (Hp.room_lt hroom)] at hi
            injection hi with hi
            exact .inl ⟨rfl, hi.symm⟩
          · rw [Tr.get_set_other HD _ _ _ _ (Hp.room_lt hroom) hin] at hi
            exact .inr hi
        refine ⟨e2, hx2, ⟨⟨r5.below.os.trans r.below.os, r5.below.tape.trans r.below.tape, r5.below.output.trans r.below.output, Nat.le_trans r.below.size r5.below.size, fun j hj hnb => ?_⟩, fun i o hi => ?_, fun i j p q hi hj hij => ?_, r.env⟩, by show h.nx ≤ h.nx + 2; omega, by show h.nx < h.nx + 2; omega, ?_⟩
        · rw [r5.below.block j (Nat.lt_of_lt_of_le hj r.below.size) (fun hf => hnb (hown j hf hj))]
          exact r.below.block j hj hnb
        · show i < h.nx + 2 ∧ _ ∧ _ ∧ RO.lt (h.nx + 2) o
          rcases cls i o hi with ⟨rfl, rfl⟩ | h6
          · refine ⟨by omega, ?_, ⟨fr, ?_, hfrz⟩, ⟨trivial, (by show h.nx + 1 < h.nx + 2; omega), trivial, trivial, trivial, trivial, trivial⟩⟩
            · rw [hat0]
              exact fun hlt0 => hown _ (hcown (Nat.lt_of_lt_of_le hlt0 r.below.size)) hlt0
            · rw [hat0, hblk]
              simp only [dskS, trS, Seg.tr, RV.tr, hat1]
          · obtain ⟨k1, k2, k3, k4⟩ := r.obj i o h6
            refine ⟨by omega, by rw [(hx2 i k1).1]; exact k2, ?_, RO.lt_mono (by omega) k4⟩
            by_cases hf : i ∈ fp
            · have h7 := sameP_ok (h5 i hf) h6
              obtain ⟨_, _, m3, _⟩ := r5.obj i o h7
              have hsym : Nv.ext h.nx e1 e2 := fun j hj => ⟨by rw [(hx2 j hj).1, (hx j hj).1], by rw [(hx2 j hj).2, (hx j hj).2]⟩
              have m4 := RO.ok_ext hsym k1 k4 m3
              rw [(hx2 i k1).1, ← (hx i k1).1]
              exact m4
            · have hk2 := RO.ok_ext hx2 k1 k4 k3
              rw [(hx2 i k1).1, r5.below.block _ (r.live h6) (hnotB i o h6 hf)]
              exact hk2
        · rcases cls i p hi with ⟨rfl, rfl⟩ | h6 <;> rcases cls j q hj with ⟨rfl, rfl⟩ | h7
          · rfl
          · exfalso
            rw [hat0, (hx2 j (r.obj j q h7).1).1] at hij
            exact hnew j q h7 hij.symm
          · exfalso
            rw [hat0, (hx2 i (r.obj i p h6).1).1] at hij
            exact hnew i p h6 hij
          · have m1 := (r.obj i p h6).1
            have m2 := (r.obj j q h7).1
            rw [(hx2 i m1).1, (hx2 j m2).1] at hij
            exact r.inj i j p q h6 h7 hij
        · simp only [RV.tr, hat0]
      · cases he
    · cases he
  · cases he
theorem crashO_ok (B : Nat → Prop) (w0 : World) : OrcOk Tryz.prog B w0 223 crashO := by
  intro xs e h v h' w r hx hv
  refine ⟨crash_enters, ?_⟩
  unfold crashO at hv
  split at hv
  · rename_i d rest
    split at hv
    · rename_i a m0 u tl t hd hroom
      split at hv
      · rename_i outs hm
        split at hv
        · rename_i hall
          injection hv with hv
          injection hv with e1 e2; subst e1 e2
          have r1 : RepH (foot h (reachH h 9 [d]) e) w e (subH h (reachH h 9 [d])) w := sub_rep r rfl fun _ _ => rfl
          obtain ⟨_, hC⟩ := crashM_ok _ e _ outs w r1 hx hm
          refine hC.mono fun en w' hg => ?_
          obtain ⟨p, hp, hg⟩ := hg
          have he : endC h (reachH h 9 [d]) a u t p = true := List.all_eq_true.1 hall p hp
          cases en with
          | returned q =>
            obtain ⟨e1, hx1, r5, _, _, rfl⟩ := hg
            exact crash_one (v := p.1) (k := p.2) r hroom hx1 r5 he
          | panicked c => exact hg.elim
          | outgrown => exact hg.elim
        · cases hv
      · cases hv
    · cases hv
  · cases hv
end Go.Proofs.YtlfljoeafpimpaaGreatDoor
namespace Go.Proofs.YtlfljoeafpimpaaGreatDoor
open Go.RowKit

noncomputable def orcC : Tr OrcE := Tr.set 10 orcT 223 (.leaf crashO)
noncomputable def runC : CallE := evCall TyL dnoS flatS FnL PtL orcC 5000 40
theorem orcC_ok (f : FuncId) (g : OrcE) (h : Tr.get 10 orcC f = some g) (B : Nat → Prop) (w0 : World) : OrcOk Tryz.prog B w0 f g := by
  unfold orcC at h
  rcases get_set_or (by decide) h with ⟨rfl, rfl⟩ | h
  · exact crashO_ok B w0
  · exact orcT_ok f g h B w0
theorem runC_ok : CallOk Tryz.prog runC := evCall_run tyOk ptOk fnOk orcC_ok (fun _ hc => snd tyOk hc) follows dnoOk flatOk 40
end Go.Proofs.YtlfljoeafpimpaaGreatDoor
