/- Oracles: slices.Sorted of a map's keys that are numbers. Oracles: slices.Sorted of a map's keys that are numbers: the contract. -/
import Derived.Test.YtlfljoeafpimpaaGreatDoorMlr
import Derived.Test.YtlfljoeafpimpaaGreatDoorLay
namespace Go.Proofs.YtlfljoeafpimpaaGreatDoor
open Go.RowKit Go.Maps Go.Sort
open Go.WideElems (Fit rg)
open Go.WideShapes (sorted_perm)

theorem keyN_is {v : RV} {n : Nat} (h : keyN v = some n) : v = .lit (.int .i64 (.ofNat n)) := by
  unfold keyN at h
  split at h
  · injection h with h; subst h; rfl
  · cases h
theorem keysN_is : ∀ {es : List (RV × RV × Nat)} {ns : List Nat}, keysN es = some ns → es.map (fun x => x.1) = ns.map fun n => .lit (.int .i64 (.ofNat n))
  | [], ns, h => by injection h with h; subst h; rfl
  | x :: r, ns, h => by
    unfold keysN at h
    split at h
    · rename_i n l h1 h2
      injection h with h; subst h
      rw [List.map_cons, keysN_is h2, keyN_is h1]; rfl
    · cases h
theorem all_ble {K : Nat} {l : List Nat} (h : l.all (fun n => Nat.ble n K) = true) : ∀ n ∈ l, n ≤ K := fun n hn => Nat.le_of_ble_eq_true (List.all_eq_true.1 h n hn)
/-! ### the map's keys as the kit reads them -/
def litK (v : RV) : Lit × DataW Unit := match keyN v with
  | some n => (.int .i64 (n : Int), .nil)
  | none => (.bool false, .nil)
def R0 : Value → Option (DataW Unit × List MemPlace) := fun _ => some (.nil, [])
theorem rg_key (e : Nv) {x : RV × RV × Nat} {n : Nat} (hx : x.1 = .lit (.int .i64 (.ofNat n))) (hn : n ≤ 1000000000000) :
    Go.WideElems.rd Tryz.prog 3 R0 (trE e x) = some ((.int .i64 (n : Int) : Lit), (.nil : DataW Unit)) := by
  have hw : (Lit.int .i64 (n : Int)).wf = true := by
    simp [Lit.wf, IntKind.min, IntKind.max, IntKind.signed, IntKind.bits]
    omega
  have hk : keyOf Tryz.prog 3 (trE e x).key = some (.int .i64 (n : Int)) := by
    have : (trE e x).key = .int .i64 (n : Int) := by unfold trE; rw [hx]; rfl
    rw [this]
    exact keyOf_int_mk Tryz.underlying3 hw
  unfold Go.WideElems.rd
  rw [hk]
  rfl
theorem owns_keys {B : Nat → Prop} {w0 w : World} {e : Nv} {h : Hp} (r : RepH B w0 e h w) {m ck : Nat} {es : List (RV × RV × Nat)} {ns : List Nat} (hm : h.at? m = some (.map es ck)) (hst : stampE ck es = true) (hk : keysN es = some ns) (hnd : nodupN ns = true)
    (hw : ns.all (fun n => Nat.ble n 1000000000000) = true) (hl : Nat.ble ns.length 100000 = true) :
    ∃ D : DataW Unit, w.ownsMap Tryz.prog 3 R0 (e.at_ m) es.length D ∧ Maps.size D = ns.length ∧ (intKeys D).Perm (ns.map fun n : Nat => (n : Int)) := by
  obtain ⟨_, _, hok, _⟩ := r.obj m _ hm
  replace hok : w.heap[e.at_ m]? = some (.map (es.map (trE e)).toArray ck) := hok
  have hkk := keysN_is hk
  have hlen : es.length = ns.length := by have := congrArg List.length hkk; simpa using this
  have hl := Nat.le_of_ble_eq_true hl
  have hnd := nodupN_ok hnd
  obtain ⟨hb1, hb2⟩ := stampE_ok hst
  have hkey : ∀ x ∈ es, ∃ n, x.1 = .lit (.int .i64 (.ofNat n)) ∧ n ≤ 1000000000000 := fun x hx => by
    have h1 : x.1 ∈ es.map (fun x => x.1) := List.mem_map.2 ⟨x, hx, rfl⟩
    rw [hkk] at h1
    obtain ⟨n, hn, he⟩ := List.mem_map.1 h1
    exact ⟨n, he.symm, all_ble hw n hn⟩
  have hrg : (es.map (trE e)).map (rg Tryz.prog 3 R0) = ns.map fun n : Nat => ((.int .i64 (n : Int) : Lit), (.nil : DataW Unit)) := by
    rw [List.map_map]
    have h1 : es.map (rg Tryz.prog 3 R0 ∘ trE e) = (es.map fun x => x.1).map litK := by
      rw [List.map_map]
      refine List.map_congr_left fun x hx => ?_
      obtain ⟨n, h1, h2⟩ := hkey x hx
      have h3 : rg Tryz.prog 3 R0 (trE e x) = litK x.1 := by
        rw [Go.WideElems.rg_of (rg_key e h1 h2), h1]
        rfl
      simp only [Function.comp_apply]
      exact h3
    rw [h1, hkk, List.map_map]
    rfl
  refine ⟨.map (((es.map (trE e)).map (rg Tryz.prog 3 R0)).foldr DataW.insert []), ⟨_, ck, hok, ⟨?_, ⟨?_, ?_, ?_⟩, ?_⟩, by simp, rfl⟩, ?_, ?_⟩
  · simp [maxLen]; omega
  · intro x hx
    obtain ⟨y, hy, rfl⟩ := List.mem_map.1 hx
    exact hb1 y hy
  · show ((es.map (trE e)).map _).Nodup
    rw [List.map_map]
    exact hb2
  · show ((es.map (trE e)).map _).Nodup
    rw [List.map_map]
    have h1 : es.map ((fun x : MapEntry => x.key) ∘ trE e) = (es.map fun x => x.1).map (RV.tr e) := by
      rw [List.map_map]; rfl
    rw [h1, hkk, List.map_map]
    refine List.pairwise_map.2 (hnd.imp fun {a b} hne hab => hne ?_)
    have hab : Value.int .i64 (Int.ofNat a) = Value.int .i64 (Int.ofNat b) := hab
    injection hab with _ hab
    exact Int.ofNat.inj hab
  · intro x hx
    obtain ⟨y, hy, rfl⟩ := List.mem_map.1 hx
    obtain ⟨n, h1, h2⟩ := hkey y hy
    exact ⟨_, rg_key e h1 h2⟩
  · show (List.foldr DataW.insert [] _).length = _
    rw [(sorted_perm _).length_eq]
    simp [hlen]
  · show (List.map _ (List.foldr DataW.insert [] _)).Perm _
    refine ((sorted_perm _).map _).trans ?_
    rw [hrg, List.map_map]
    exact List.Perm.of_eq (List.map_congr_left fun n _ => rfl)
/-! ### the order -/
theorem insN_perm (n : Nat) : ∀ l : List Nat, (insN n l).Perm (n :: l)
  | [] => .refl _
  | m :: r => by
    unfold insN
    split
    · exact .refl _
    · exact ((insN_perm n r).cons m).trans (List.Perm.swap n m r)
theorem sortN_perm : ∀ l : List Nat, (sortN l).Perm l
  | [] => .refl _
  | n :: r => (insN_perm n (sortN r)).trans ((sortN_perm r).cons n)
theorem insN_sorted (n : Nat) : ∀ {l : List Nat}, l.Pairwise (· ≤ ·) → (insN n l).Pairwise (· ≤ ·)
  | [], _ => by unfold insN; exact List.pairwise_singleton ..
  | m :: r, h => by
    obtain ⟨h1, h2⟩ := List.pairwise_cons.1 h
    unfold insN
    split
    · rename_i hb
      have hb := Nat.le_of_ble_eq_true hb
      refine List.pairwise_cons.2 ⟨fun x hx => ?_, h⟩
      rcases List.mem_cons.1 hx with rfl | hx
      · exact hb
      · exact Nat.le_trans hb (h1 x hx)
    · rename_i hb
      have hb := not_ble hb
      refine List.pairwise_cons.2 ⟨fun x hx => ?_, insN_sorted n h2⟩
      rcases List.mem_cons.1 ((insN_perm n r).mem_iff.1 hx) with rfl | hx
      · omega
      · exact h1 x hx
theorem sortN_sorted : ∀ l : List Nat, (sortN l).Pairwise (· ≤ ·)
  | [] => List.Pairwise.nil
  | n :: r => insN_sorted n (sortN_sorted r)
theorem merge_sortN {ss : List Int} {ns : List Nat} (h : ss.Perm (ns.map fun n : Nat => (n : Int))) : ss.mergeSort leI = (sortN ns).map fun n : Nat => (n : Int) := by
  have tr : ∀ a b c : Int, leI a b = true → leI b c = true → leI a c = true := fun a b c h1 h2 => by simp only [leI, decide_eq_true_eq] at *; exact Int.le_trans h1 h2
  have to : ∀ a b : Int, (leI a b || leI b a) = true := fun a b => by simp only [leI, Bool.or_eq_true, decide_eq_true_eq]; exact Int.le_total a b
  refine List.Perm.eq_of_pairwise (le := fun a b => leI a b = true) (fun a b _ _ h1 h2 => ?_) (List.pairwise_mergeSort tr to ss) ?_ ((List.mergeSort_perm ss leI).trans (h.trans ((sortN_perm ns).map _).symm))
  · simp only [leI, decide_eq_true_eq] at h1 h2
    exact Int.le_antisymm h1 h2
  · refine List.pairwise_map.2 ((sortN_sorted ns).imp fun {a b} hab => ?_)
    simp only [leI, decide_eq_true_eq]
    omega
end Go.Proofs.YtlfljoeafpimpaaGreatDoor
namespace Go.Proofs.YtlfljoeafpimpaaGreatDoor
open Go.RowKit Go.Maps Go.Sort

theorem sorts_in (m : Nat) : AnyZI.SortsIn Tryz.prog Tryz.sortedA_ren Fence.wide m :=
  ⟨fun blk off cap ss W hH hblk hsz => callsIn_wide.2 (AnyM.slices_Sort_int Tryz.sortA blk off cap ss W hH hblk hsz),
   fun p cap W => callsIn_wide.2 (AnyM.slices_Sort_int_none Tryz.sortA p cap W)⟩
/-- what sorted keys come to -/
def SortedTo (w : World) (ns : List Nat) : Ending → World → Prop := fun en w' => ∃ (v : Value) (ss : List Int), en = .returned v ∧ ss.Perm (ns.map fun n : Nat => (n : Int)) ∧
  w'.ownsRow w.heap.size 3 1 v ss.length ((ss.mergeSort (fun x y => decide (x ≤ y))).map encZ) ∧ (v = .slice none 0 0 ↔ ss = []) ∧ Below w.heap.size w w'
theorem trS_ints (e : Nv) : ∀ l : List Nat, trS e (l.map fun n => .one (.lit (.int .i64 (.ofNat n)))) = (l.map fun n : Nat => (n : Int)).map encZ
  | [] => rfl
  | n :: l => by
    rw [List.map_cons, trS, trS_ints e l]; rfl
theorem lenS_ints : ∀ l : List Nat, lenS (l.map fun n => .one (.lit (.int .i64 (.ofNat n)))) = l.length
  | [] => rfl
  | n :: l => by
    rw [List.map_cons, lenS, lenS_ints l, List.length_cons]
    show 1 + _ = _
    omega
theorem ltS_ints (k : Nat) : ∀ l : List Nat, ltS k (l.map fun n => .one (.lit (.int .i64 (.ofNat n))))
  | [] => trivial
  | _ :: l => ⟨trivial, ltS_ints k l⟩
theorem sorted_gives {B : Nat → Prop} {w0 w w' : World} {e : Nv} {h : Hp} {ns : List Nat} {en : Ending} (r : RepH B w0 e h w) (hroom : h.room = true) (hg : SortedTo w ns en w') :
    (ns = [] → Gives B w0 e h nilS h en w') ∧ (ns ≠ [] → Gives B w0 e h (.slu h.nx 0 ns.length 0) (h.add (.row ((sortN ns).map fun n => .one (.lit (.int .i64 (.ofNat n)))) 3 1)) en w') := by
  obtain ⟨v, ss, rfl, hp, hrow, hnil, hb⟩ := hg
  have hk := r.kept hb
  have hlen : ss.length = ns.length := by have := hp.length_eq; simpa using this
  refine ⟨fun hn => ?_, fun hn => ?_⟩
  · subst hn
    have hss : ss = [] := List.eq_nil_of_length_eq_zero hlen
    exact ⟨e, Nv.ext.refl _ _, hk, Nat.le_refl _, trivial, hnil.2 hss⟩
  · rcases hrow.2 with ⟨rfl, hz⟩ | ⟨gb, cap, cur, rfl, hbase, hgb, r1, r2, r3, r4⟩
    · exfalso
      apply hn
      exact List.eq_nil_of_length_eq_zero (by omega)
    · have hx := Nv.put_ext e h.nx gb cap
      have hm : (ss.mergeSort (fun x y => decide (x ≤ y))) = (sortN ns).map fun n : Nat => (n : Int) := merge_sortN hp
      rw [hm] at r4
      have hl2 : (sortN ns).length = ns.length := (sortN_perm ns).length_eq
      refine ⟨e.put h.nx gb cap, hx, hk.name gb cap (Hp.room_lt hroom) (fun hlt => ?_) (fun i x hi => ?_) ⟨cur.toList.drop ss.length, (0, 0), ?_, ?_, frz_zero _⟩ (ltS_ints _ _), Nat.le_succ _, Nat.lt_succ_self _, ?_⟩
      · have := r.below.size; omega
      · have := r.live hi; omega
      · rw [hgb, trS_ints]
        congr 2
        have h4 : cur.toList.take ss.length = ((sortN ns).map fun n : Nat => (n : Int)).map encZ := by simpa using r4
        rw [← h4, List.take_append_drop]
      · rw [lenS_ints]
        simp only [List.length_drop, Array.length_toList, Nv.put, if_true]
        omega
      · simp only [RV.tr, Nv.put, if_true, Nat.sub_zero, hlen]
/-- the iterators over keys that are numbers -/
def keysL : List Nat := [] ++ (
  [600] ++ (
  [693] ++ (
  [696] ++ (
  [468] ++ (
  [392] ++ (
   []
  )
  )
  )
  )
  )
   )
def KeySeq (f : FuncId) : Prop := (∀ args w, (callFunc f args).run Tryz.prog w = .ok (.enter f args) w) ∧ ∀ (D : DataW Unit) (b c nn : Nat) (w : World), b < w.heap.size → w.cell? ⟨b, 0, none⟩ = some (.map (some c)) → w.ownsMap Tryz.prog 3 R0 c nn D →
  SeqGives Fence.wide 2 Tryz.prog f #[.pointer (some ⟨b, 0, none⟩)] encZ (fun ss => ss.Perm (intKeys D)) (Maps.size D) w
theorem keySeqA {f : FuncId} (hf : f = 600) : KeySeq f := by
  subst hf
  exact ⟨enters_of Tryz.func600 (by kernel_rfl) rfl, fun D b c nn w hb hcell hown => AnyZI.keys_gives (ρ := Tryz.keysA_ren) { Tryz.keysA with } Fence.wide 2 trivial rfl (by omega) b c nn D w hb hcell hown⟩
theorem keySeqB {f : FuncId} (hf : f = 693) : KeySeq f := by
  subst hf
  exact ⟨enters_of Tryz.func693 (by kernel_rfl) rfl, fun D b c nn w hb hcell hown => AnyZI.keys_gives (ρ := Tryz.keysB_ren) { Tryz.keysB with } Fence.wide 2 trivial rfl (by omega) b c nn D w hb hcell hown⟩
theorem keySeqC {f : FuncId} (hf : f = 696) : KeySeq f := by
  subst hf
  exact ⟨enters_of Tryz.func696 (by kernel_rfl) rfl, fun D b c nn w hb hcell hown => AnyZI.keys_gives (ρ := Tryz.keysC_ren) { Tryz.keysC with } Fence.wide 2 trivial rfl (by omega) b c nn D w hb hcell hown⟩
theorem keySeqD {f : FuncId} (hf : f = 468) : KeySeq f := by
  subst hf
  exact ⟨enters_of Tryz.func468 (by kernel_rfl) rfl, fun D b c nn w hb hcell hown => AnyZI.keys_gives (ρ := Tryz.keysD_ren) { Tryz.keysD with } Fence.wide 2 trivial rfl (by omega) b c nn D w hb hcell hown⟩
theorem keySeqE {f : FuncId} (hf : f = 392) : KeySeq f := by
  subst hf
  exact ⟨enters_of Tryz.func392 (by kernel_rfl) rfl, fun D b c nn w hb hcell hown => AnyZI.keys_gives (ρ := Tryz.keysE_ren) { Tryz.keysE with } Fence.wide 2 trivial rfl (by omega) b c nn D w hb hcell hown⟩
theorem keySeq {f : FuncId} (hf : f ∈ keysL) : KeySeq f := by
  unfold keysL at hf
  rcases List.mem_append.1 hf with hf | hf
  · cases hf
  rcases List.mem_append.1 hf with hf | hf
  · exact keySeqA (List.mem_singleton.1 hf)
  rcases List.mem_append.1 hf with hf | hf
  · exact keySeqB (List.mem_singleton.1 hf)
  rcases List.mem_append.1 hf with hf | hf
  · exact keySeqC (List.mem_singleton.1 hf)
  rcases List.mem_append.1 hf with hf | hf
  · exact keySeqD (List.mem_singleton.1 hf)
  rcases List.mem_append.1 hf with hf | hf
  · exact keySeqE (List.mem_singleton.1 hf)
  cases hf
theorem sortO_ok {keysF : FuncId → Bool} (hK : ∀ f, keysF f = true → f ∈ keysL) (B : Nat → Prop) (w0 : World) : OrcOk Tryz.prog B w0 302 (sortO keysF) := by
  intro xs e h v h' w r hx hv
  refine ⟨⟨Tryz.f302, Tryz.func302, by kernel_rfl, by kernel_rfl⟩, ?_⟩
  unfold sortO at hv
  split at hv
  · rename_i f c
    split at hv
    · rename_i m t hf hc
      split at hv
      · rename_i es ck hm hroom
        split at hv
        · rename_i ns hns
          split at hv
          · rename_i b1 b2 b3 b4
            obtain ⟨D, hown, hsz, hperm⟩ := owns_keys r hm b1 hns b2 b3 b4
            have b4 := Nat.le_of_ble_eq_true b4
            have hcell : w.cell? ⟨e.at_ c, 0, none⟩ = some (.map (some (e.at_ m))) := by
              have := r.range hc rfl 0 0 (.map (some (e.at_ m))) rfl
              simpa using this
            have hlive := r.live hc
            have hmax : Maps.size D ≤ maxLen := by rw [hsz]; simp [maxLen]; omega
            have hbytes : Maps.size D * 8 ≤ 140737488355328 := by rw [hsz]; omega
            have hcall : Calls Tryz.prog 302 #[.func (.func f) #[] #[.pointer (some ⟨e.at_ c, 0, none⟩)]] w (SortedTo w ns) := by
              obtain ⟨hent, hsq⟩ := keySeq (hK f hf)
              have hseq := hsq D (e.at_ c) (e.at_ m) _ w hlive hcell hown
              have cS := AnyZI.sorted_in Tryz.sortedA Fence.wide 5 trivial trivial trivial trivial rfl (by omega) (sorts_in _) (enters_of Tryz.func391 (by kernel_rfl) rfl) f #[.pointer (some ⟨e.at_ c, 0, none⟩)] trivial hent _ _ hmax hbytes _ hseq
              refine ((callsIn_wide (n := 5)).1 cS).mono fun en w' hg => ?_
              obtain ⟨v, ss, h1, h2, h3⟩ := hg
              exact ⟨v, ss, h1, h2.trans hperm, h3⟩
            refine hcall.mono fun en w' hg => ?_
            have hgv := sorted_gives r hroom hg
            split at hv
            · injection hv with hv
              injection hv with e1 e2; subst e1 e2
              exact hgv.1 rfl
            · rename_i hne
              injection hv with hv
              injection hv with e1 e2; subst e1 e2
              exact hgv.2 hne
          · cases hv
        · cases hv
      · cases hv
    · cases hv
  · cases hv
end Go.Proofs.YtlfljoeafpimpaaGreatDoor
