/- The evaluator: calls of built-in functions: len, min, max, copy. -/
import Derived.Test.YtkjgmakaidfgaaaGreatDoorEvl
namespace Go.Proofs.YtkjgmakaidfgaaaGreatDoor
open Go.RowKit

section
variable {P : Program} {Ty : Tr TypeInfo} {B : Nat → Prop} {w0 w : World} {e : Nv} {h h' : Hp} {F : Fr} {a : Act} {o : Oper} {v : RV} {n : Nat}
/-- the cells of the first elements -/
theorem firstS_run (r : RepH B w0 e h w) {sz n : Nat} {x : RV} {vs : List Seg} (hv : firstS h sz n x = some vs) :
    (Builtin.firstCells sz n (RV.tr e x)).run P w = .ok (trS e vs).toArray w ∧ ltS h.nx vs := by
  unfold firstS at hv
  split at hv
  · injection hv with hv; subst hv
    exact ⟨run_firstCells_none w sz n _ _, trivial⟩
  · rename_i s
    injection hv with hv; subst hv
    refine ⟨?_, pack_lt _⟩
    rw [pack_tr]
    simp only [RV.tr, Builtin.firstCells, Sem.run_pure]
    congr 1
    apply Array.ext'
    simp
  · split at hv
    · injection hv with hv; subst hv
      refine ⟨?_, trivial⟩
      have : 0 * sz = 0 := Nat.zero_mul sz
      simp [RV.tr, Builtin.firstCells, this, loadCells, loadCellsFrom, trS]
    · cases hv
  · split at hv
    · rename_i b o' n' hr
      split at hv
      · rename_i y hy
        split at hv
        · rename_i cs t hs
          split at hv
          · rename_i hl
            injection hv with hv; subst hv
            obtain ⟨c, hc⟩ := rowOf_tr e hr
            refine ⟨?_, takeS_lt _ (dropS_lt _ (r.scoped hy hs))⟩
            rw [hc]
            have hrd := r.read hy hs o' (n * sz)
            refine run_firstCells_some w sz n _ _ _ _ ?_ fun j u hj => ?_
            · rw [trS_len]; exact Nat.eq_of_beq_eq_true hl
            · have := hrd j u hj
              rw [Addr.add_lit]
              exact this
          · cases hv
        · cases hv
      · cases hv
    · cases hv
theorem lenV_of (K : lenV v = some n) (w : World) : (Builtin.lenOf (RV.tr e v)).run P w = .ok n w := by
  unfold lenV at K
  split at K <;> first
    | (cases K; done)
    | (injection K with K; subst K; rfl)
theorem putRow_run (r : RepH B w0 e h w) {b o : Nat} {vs : List Seg} (hl : ltS h.nx vs) (hv : putRow h b o vs = some h') :
    ∃ w', (storeCells ⟨e.at_ b, o, none⟩ (trS e vs)).run P w = .ok () w' ∧ RepH B w0 e h' w' ∧ h'.nx = h.nx := by
  unfold putRow at hv
  split at hv
  · rename_i y hy
    split at hv
    · rename_i cs t hs
      split at hv
      · rename_i h1 h2
        injection hv with hv; subst hv
        obtain ⟨w', hr, r'⟩ := r.store (P := P) hy hs o vs (Nat.le_of_ble_eq_true h1) h2 hl
        exact ⟨w', hr, r', rfl⟩
      · cases hv
    · cases hv
  · cases hv
theorem evCopy_run (K : TyOk P Ty) (r : RepH B w0 e h w) {t : TypeId} {d s : RV} (hv : evCopy Ty h t d s = some (v, h')) {ts : List TypeId} {ty : TypeId} :
    ∃ w', (Builtin.copy_ (t :: ts).toArray ty #[RV.tr e d, RV.tr e s]).run P w = .ok (RV.tr e v) w' ∧ RepH B w0 e h' w' ∧ h'.nx = h.nx ∧ RV.lt h'.nx v := by
  unfold evCopy at hv
  split at hv
  · rename_i el hu
    split at hv
    · rename_i sz dn sn hsz hd hs
      split at hv
      · rename_i vs hf
        obtain ⟨hfr, hfl⟩ := firstS_run (P := P) (e := e) r hf
        split at hv
        · rename_i n c
          injection hv with hv
          injection hv with h1 h2; subst h1 h2
          obtain rfl : n = dn := by simpa [lenV] using hd
          refine ⟨w, ?_, r, rfl, trivial⟩
          simp [Builtin.copy_, K.undRun hu, RV.tr, lenV_of (P := P) (e := e) hs w, K.size hsz, hfr, goInt, intV]
        · split at hv
          · rename_i b o' n' hrow
            obtain ⟨h2, hp, hh⟩ := some_map hv
            injection hh with h3 h4; subst h3 h4
            obtain ⟨w', hst, r', hn⟩ := putRow_run (P := P) r hfl hp
            obtain ⟨c, hc⟩ := rowOf_tr e hrow
            obtain rfl : n' = dn := by
              unfold rowOf at hrow
              split at hrow <;> first
                | (cases hrow; done)
                | (injection hrow with hrow
                   injection hrow with _ hrow
                   injection hrow with _ hrow
                   injection hd with hd
                   omega)
            refine ⟨w', ?_, r', hn, trivial⟩
            simp [Builtin.copy_, K.undRun hu, hc, lenV_of (P := P) (e := e) hs w, K.size hsz, hfr, hst, goInt, intV, RV.tr]
          · cases hv
      · cases hv
    · cases hv
  · cases hv
end
end Go.Proofs.YtkjgmakaidfgaaaGreatDoor
