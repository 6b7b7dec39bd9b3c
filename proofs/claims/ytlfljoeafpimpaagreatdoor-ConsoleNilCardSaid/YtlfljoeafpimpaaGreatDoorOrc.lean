/- Oracles of the evaluator: the frame of a run that begins with nothing; crc.nibbles, crc.take. -/
import Derived.Test.YtlfljoeafpimpaaGreatDoorEvz
import Derived.Test.YtlfljoeafpimpaaGreatDoorCrc
import Derived.Test.YtlfljoeafpimpaaGreatDoorTab
namespace Go.Proofs.YtlfljoeafpimpaaGreatDoor
open Go.RowKit

/-! ### a run that begins with nothing -/
def e0 : Nv := ⟨fun _ => 0, fun _ => 0⟩
def hE : Hp := ⟨0, .nil⟩
theorem rep0 (w : World) (hw : EnvW w) (e : Nv) : RepH (fun _ => False) w e hE w :=
  have hno : ∀ i, hE.at? i = none := fun i => Tr.get_nil HD i
  ⟨Tn.refl _ w, (fun i o hi => by rw [hno i] at hi; cases hi), (fun i j a b hi => by rw [hno i] at hi; cases hi), hw.env⟩
/-- what a call from nothing promises in any world -/
theorem from_nothing {P : Program} {call : CallE} (hc : CallOk P call) {f : FuncId} {xs : List RV} {v : RV} {h1 : Hp} (hx : ltL 0 xs) (hv : call.fn f xs hE = some (v, h1)) (hl : RV.lt 0 v) (e : Nv) (w : World) (hw : EnvW w) :
    Enters P f ∧ Calls P f (trL e xs).toArray w fun en w' => en = .returned (RV.tr e v) ∧ Below w.heap.size w w' := by
  obtain ⟨hE, hC⟩ := hc.fn f xs e _ v h1 w (rep0 w hw e) hx hv
  refine ⟨hE, hC.mono fun en w' hg => ?_⟩
  cases en with
  | returned u =>
    obtain ⟨e', hxe, r', _, _, rfl⟩ := hg
    exact ⟨by rw [RV.tr_ext hxe v hl], r'.below.toBelow⟩
  | panicked c => exact hg.elim
  | outgrown => exact hg.elim
/-- an oracle out of such a call: one list of arguments, one value -/
noncomputable def constO (xs : List RV) (v : RV) : OrcE := fun ys h => match eqRL ys xs with
  | true => some (v, h)
  | false => none
theorem constO_ok {P : Program} {call : CallE} (hc : CallOk P call) {f : FuncId} {xs : List RV} {v : RV} {h1 : Hp} (hx : ltL 0 xs) (hv : call.fn f xs hE = some (v, h1)) (hl : RV.lt 0 v) (B : Nat → Prop) (w0 : World) : OrcOk P B w0 f (constO xs v) := by
  intro ys e h u h' w r hy hu
  unfold constO at hu
  split at hu
  · rename_i heq
    injection hu with hu
    injection hu with e1 e2; subst e1 e2
    obtain rfl := eqRL_eq heq
    obtain ⟨hE, hC⟩ := from_nothing hc hx hv hl e w r.envW
    refine ⟨hE, hC.mono fun en w' hg => ?_⟩
    obtain ⟨rfl, hb⟩ := hg
    exact ⟨e, Nv.ext.refl _ _, r.kept hb, Nat.le_refl _, RV.lt_mono (Nat.zero_le _) _ hl, rfl⟩
  · cases hu
/-! ### crc.take -/
def crcT : List Nat := [0,274646895,549293790,820201905,1098587580,1361435347,1640403810,1905808397,2197175160,2460548119,2722870694,2987750089,3280807620,3553878443,3811616794,4084100981]
def crcTT : Nat := 12749536319551302420830055290731983042906869231766370170184255228463894984119587222357463453493748006886229547019502462691509165827871124329361635492757504
def crcS : List Seg := crcT.map fun n => .one (.lit (.int .u32 (.ofNat n)))
def stpP (r : Nat) : Nat := Nat.xor (Nat.div r 16) (Nat.mod (Nat.shiftRight crcTT (Nat.mul 32 (Nat.mod r 16))) 4294967296)
theorem stpP_eq (r : Nat) : stpP r = stpN crcT r := by
  unfold stpN
  show (r / 16) ^^^ ((crcTT >>> (32 * (r % 16))) % 4294967296) = (r / 16) ^^^ _
  congr 1
  have : ∀ k : Fin 16, (crcTT >>> (32 * k.val)) % 4294967296 = crcT.getD k.val 0 := by decide +kernel
  exact this ⟨r % 16, by omega⟩
noncomputable def takeP (k m r : Nat) : Nat :=
  Nat.rec (motive := fun _ => Nat → Nat → Nat) (fun _ r => r) (fun _ ih m r => forceN (stpP (stpP (Nat.xor r (Nat.mod m 256)))) fun r' => forceN (Nat.shiftRight m 8) fun m' => ih m' r') k m r
def byL (m k : Nat) : List Nat := (List.range k).map fun i => (m >>> (8 * i)) % 256
theorem byL_succ (m k : Nat) : byL m (k + 1) = m % 256 :: byL (m >>> 8) k := by
  unfold byL
  rw [List.range_succ_eq_map, List.map_cons, List.map_map]
  congr 1
  exact List.map_congr_left fun i _ => by
    show (m >>> (8 * (i + 1))) % 256 = (m >>> 8 >>> (8 * i)) % 256
    rw [← Nat.shiftRight_add, Nat.mul_succ, Nat.add_comm]
theorem takeP_eq : ∀ (k m r : Nat), takeP k m r = takeN crcT r (byL m k)
  | 0, _, _ => rfl
  | k + 1, m, r => by
    have : takeP (k + 1) m r = forceN (stpP (stpP (Nat.xor r (Nat.mod m 256)))) fun r' => forceN (Nat.shiftRight m 8) fun m' => takeP k m' r' := rfl
    rw [this, forceN_eq, forceN_eq, takeP_eq k, byL_succ, stpP_eq, stpP_eq]
    rfl
noncomputable def takeO : OrcE := fun xs h => match xs with
  | [.lit (.int .u32 (.ofNat r)), .agg cs, x] => match rowOf x, Nat.ble 4294967296 r, eqSS cs crcS with
    | some (b, o, n), false, true => match h.at? b with
      | some y => match y.segs with
        | some (ss, _) => match takeS (dropS ss o) n, Nat.ble n 1000000000 with
          | [.byt m k], true => match Nat.beq k n with
            | true => some (.lit (.int .u32 (.ofNat (takeP k m r))), h)
            | false => none
          | _, _ => none
        | none => none
      | none => none
    | _, _, _ => none
  | _ => none
theorem takeO_ok (B : Nat → Prop) (w0 : World) (hE : Enters Tryz.prog 432) : OrcOk Tryz.prog B w0 432 takeO := by
  intro xs e h v h' w r hx hv
  refine ⟨hE, ?_⟩
  unfold takeO at hv
  split at hv
  · rename_i r0 cs x
    split at hv
    · rename_i b o n hro hr0 hcs
      split at hv
      · rename_i y hy
        split at hv
        · rename_i ss t hss
          split at hv
          · rename_i m k hts hn
            split at hv
            · rename_i hk
              injection hv with hv
              injection hv with e1 e2; subst e1 e2
              obtain rfl := Nat.eq_of_beq_eq_true hk
              have hn := Nat.le_of_ble_eq_true hn
              obtain rfl := eqSS_eq hcs
              obtain ⟨c, hxt⟩ := rowOf_tr e hro
              have hrd := r.read hy hss o k
              rw [hts] at hrd
              simp only [trS, Seg.tr, List.append_nil] at hrd
              have hl : (byL m k).length = k := by simp [byL]
              have hcall := take_some crcT rfl (by decide) r0 (not_ble hr0) (byL m k) (fun c hc => by
                obtain ⟨i, _, rfl⟩ := List.mem_map.1 hc
                exact Nat.mod_lt _ (by decide)) (by rw [hl]; omega) (e.at_ b) o c w (fun i c hc => hrd i _ (by
                unfold bytV
                unfold byL at hc
                rw [List.getElem?_map] at hc ⊢
                cases hq : (List.range k)[i]? with
                | none => rw [hq] at hc; cases hc
                | some j =>
                  rw [hq] at hc
                  simp only [Option.map_some, Option.some.injEq] at hc ⊢
                  rw [← hc]; rfl))
              rw [hl] at hcall
              have hargs : (trL e [.lit (.int .u32 (.ofNat r0)), .agg crcS, x]).toArray = #[.int .u32 (r0 : Int), .agg (crcT.map fun x : Nat => Value.int .u32 ((x : Nat) : Int)).toArray, .slice (some ⟨e.at_ b, o, none⟩) k c] := by
                simp only [trL, hxt]
                rfl
              rw [hargs]
              refine hcall.mono fun en w' hg => ?_
              obtain ⟨rfl, hb⟩ := hg
              refine ⟨e, Nv.ext.refl _ _, r.kept hb, Nat.le_refl _, trivial, ?_⟩
              rw [← takeP_eq]
              rfl
            · cases hv
          · cases hv
        · cases hv
      · cases hv
    · cases hv
  · cases hv
end Go.Proofs.YtlfljoeafpimpaaGreatDoor
