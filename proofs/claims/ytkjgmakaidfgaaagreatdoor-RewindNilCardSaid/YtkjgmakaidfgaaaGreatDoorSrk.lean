/- Oracles: slices.Sorted of a map's keys that are numbers: the contract. -/
import Derived.Test.YtkjgmakaidfgaaaGreatDoorSrt
namespace Go.Proofs.YtkjgmakaidfgaaaGreatDoor
open Go.RowKit Go.Maps Go.Sort

theorem sorts_in (m : Nat) : AnyZI.SortsIn Tryz.prog Tryz.sortedA_ren Fence.wide m :=
  ⟨fun blk off cap ss W hH hblk hsz => callsIn_wide.2 (AnyM.slices_Sort_int Tryz.sortA blk off cap ss W hH hblk hsz),
   fun p cap W => callsIn_wide.2 (AnyM.slices_Sort_int_none Tryz.sortA p cap W)⟩
/-- what sorted keys come to -/
def SortedTo (w : World) (ns : List Nat) : Ending → World → Prop := fun en w' => ∃ (v : Value) (ss : List Int), en = .returned v ∧ ss.Perm (ns.map fun n : Nat => (n : Int)) ∧
  w'.ownsRow w.heap.size 3 1 v ss.length ((ss.mergeSort (fun x y => decide (x ≤ y))).map encZ) ∧ (v = .slice none 0 0 ↔ ss = []) ∧ Below w.heap.size w w'
theorem trS_ints (e : Nv) : ∀ l : List Nat, trS e (l.map fun n => .one (.lit (.int .i64 (.ofNat n)))) = (l.map fun n : Nat => (n : Int)).map encZ
  | [] => rfl
  | n :: l => by
    rw [List.map_cons, trS, trS_ints e l]; rfl
theorem lenS_ints : ∀ l : List Nat, lenS (l.map fun n => .one (.lit (.int .i64 (.ofNat n)))) = l.length
  | [] => rfl
  | n :: l => by
    rw [List.map_cons, lenS, lenS_ints l, List.length_cons]
    show 1 + _ = _
    omega
theorem ltS_ints (k : Nat) : ∀ l : List Nat, ltS k (l.map fun n => .one (.lit (.int .i64 (.ofNat n))))
  | [] => trivial
  | _ :: l => ⟨trivial, ltS_ints k l⟩
theorem sorted_gives {B : Nat → Prop} {w0 w w' : World} {e : Nv} {h : Hp} {ns : List Nat} {en : Ending} (r : RepH B w0 e h w) (hroom : h.room = true) (hg : SortedTo w ns en w') :
    (ns = [] → Gives B w0 e h nilS h en w') ∧ (ns ≠ [] → Gives B w0 e h (.slu h.nx 0 ns.length 0) (h.add (.row ((sortN ns).map fun n => .one (.lit (.int .i64 (.ofNat n)))) 3 1)) en w') := by
  obtain ⟨v, ss, rfl, hp, hrow, hnil, hb⟩ := hg
  have hk := r.kept hb
  have hlen : ss.length = ns.length := by have := hp.length_eq; simpa using this
  refine ⟨fun hn => ?_, fun hn => ?_⟩
  · subst hn
    have hss : ss = [] := List.eq_nil_of_length_eq_zero hlen
    exact ⟨e, Nv.ext.refl _ _, hk, Nat.le_refl _, trivial, hnil.2 hss⟩
  · rcases hrow.2 with ⟨rfl, hz⟩ | ⟨gb, cap, cur, rfl, hbase, hgb, r1, r2, r3, r4⟩
    · exfalso
      apply hn
      exact List.eq_nil_of_length_eq_zero (by omega)
    · have hx := Nv.put_ext e h.nx gb cap
      have hm : (ss.mergeSort (fun x y => decide (x ≤ y))) = (sortN ns).map fun n : Nat => (n : Int) := merge_sortN hp
      rw [hm] at r4
      have hl2 : (sortN ns).length = ns.length := (sortN_perm ns).length_eq
      refine ⟨e.put h.nx gb cap, hx, hk.name gb cap (Hp.room_lt hroom) (fun hlt => ?_) (fun i x hi => ?_) ⟨cur.toList.drop ss.length, (0, 0), ?_, ?_, frz_zero _⟩ (ltS_ints _ _), Nat.le_succ _, Nat.lt_succ_self _, ?_⟩
      · have := r.below.size; omega
      · have := r.live hi; omega
      · rw [hgb, trS_ints]
        congr 2
        have h4 : cur.toList.take ss.length = ((sortN ns).map fun n : Nat => (n : Int)).map encZ := by simpa using r4
        rw [← h4, List.take_append_drop]
      · rw [lenS_ints]
        simp only [List.length_drop, Array.length_toList, Nv.put, if_true]
        omega
      · simp only [RV.tr, Nv.put, if_true, Nat.sub_zero, hlen]
theorem sortO_ok {keysF : FuncId → Bool} (hK : ∀ f, keysF f = true → f = 21 ∨ f = 208) (B : Nat → Prop) (w0 : World) : OrcOk Tryz.prog B w0 12 (sortO keysF) := by
  intro xs e h v h' w r hx hv
  refine ⟨⟨Tryz.f12, Tryz.func12, by kernel_rfl, by kernel_rfl⟩, ?_⟩
  unfold sortO at hv
  split at hv
  · rename_i f c
    split at hv
    · rename_i m t hf hc
      split at hv
      · rename_i es ck hm hroom
        split at hv
        · rename_i ns hns
          split at hv
          · rename_i b1 b2 b3 b4
            obtain ⟨D, hown, hsz, hperm⟩ := owns_keys r hm b1 hns b2 b3 b4
            have b4 := Nat.le_of_ble_eq_true b4
            have hcell : w.cell? ⟨e.at_ c, 0, none⟩ = some (.map (some (e.at_ m))) := by
              have := r.range hc rfl 0 0 (.map (some (e.at_ m))) rfl
              simpa using this
            have hlive := r.live hc
            have hmax : Maps.size D ≤ maxLen := by rw [hsz]; simp [maxLen]; omega
            have hbytes : Maps.size D * 8 ≤ 140737488355328 := by rw [hsz]; omega
            have hcall : Calls Tryz.prog 12 #[.func (.func f) #[] #[.pointer (some ⟨e.at_ c, 0, none⟩)]] w (SortedTo w ns) := by
              rcases hK f hf with rfl | rfl
              · have hseq := AnyZI.keys_gives (ρ := Tryz.keysA_ren) { Tryz.keysA with } Fence.wide 2 trivial rfl (by omega) (e.at_ c) (e.at_ m) _ D w hlive hcell hown
                have cS := AnyZI.sorted_in Tryz.sortedA Fence.wide 5 trivial trivial trivial trivial rfl (by omega) (sorts_in _) (enters_of Tryz.func20 (by kernel_rfl) rfl) 21 #[.pointer (some ⟨e.at_ c, 0, none⟩)] trivial (enters_of Tryz.func21 (by kernel_rfl) rfl) _ _ hmax hbytes _ hseq
                refine ((callsIn_wide (n := 5)).1 cS).mono fun en w' hg => ?_
                obtain ⟨v, ss, h1, h2, h3⟩ := hg
                exact ⟨v, ss, h1, h2.trans hperm, h3⟩
              · have hseq := AnyZI.keys_gives (ρ := Tryz.keysB_ren) { Tryz.keysB with } Fence.wide 2 trivial rfl (by omega) (e.at_ c) (e.at_ m) _ D w hlive hcell hown
                have cS := AnyZI.sorted_in Tryz.sortedA Fence.wide 5 trivial trivial trivial trivial rfl (by omega) (sorts_in _) (enters_of Tryz.func20 (by kernel_rfl) rfl) 208 #[.pointer (some ⟨e.at_ c, 0, none⟩)] trivial (enters_of Tryz.func208 (by kernel_rfl) rfl) _ _ hmax hbytes _ hseq
                refine ((callsIn_wide (n := 5)).1 cS).mono fun en w' hg => ?_
                obtain ⟨v, ss, h1, h2, h3⟩ := hg
                exact ⟨v, ss, h1, h2.trans hperm, h3⟩
            refine hcall.mono fun en w' hg => ?_
            have hgv := sorted_gives r hroom hg
            split at hv
            · injection hv with hv
              injection hv with e1 e2; subst e1 e2
              exact hgv.1 rfl
            · rename_i hne
              injection hv with hv
              injection hv with e1 e2; subst e1 e2
              exact hgv.2 hne
          · cases hv
        · cases hv
      · cases hv
    · cases hv
  · cases hv
end Go.Proofs.YtkjgmakaidfgaaaGreatDoor
