/- Oracles: slices.Sorted of a map's keys that are numbers. -/
import Derived.Test.YtkjgmakaidfgaaaGreatDoorMlp
import Derived.Test.YtkjgmakaidfgaaaGreatDoorLay
namespace Go.Proofs.YtkjgmakaidfgaaaGreatDoor
open Go.RowKit Go.Maps Go.Sort
open Go.WideElems (Fit rg)
open Go.WideShapes (sorted_perm)

theorem keyN_is {v : RV} {n : Nat} (h : keyN v = some n) : v = .lit (.int .i64 (.ofNat n)) := by
  unfold keyN at h
  split at h
  · injection h with h; subst h; rfl
  · cases h
theorem keysN_is : ∀ {es : List (RV × RV × Nat)} {ns : List Nat}, keysN es = some ns → es.map (fun x => x.1) = ns.map fun n => .lit (.int .i64 (.ofNat n))
  | [], ns, h => by injection h with h; subst h; rfl
  | x :: r, ns, h => by
    unfold keysN at h
    split at h
    · rename_i n l h1 h2
      injection h with h; subst h
      rw [List.map_cons, keysN_is h2, keyN_is h1]; rfl
    · cases h
theorem all_ble {K : Nat} {l : List Nat} (h : l.all (fun n => Nat.ble n K) = true) : ∀ n ∈ l, n ≤ K := fun n hn => Nat.le_of_ble_eq_true (List.all_eq_true.1 h n hn)
/-! ### the map's keys as the kit reads them -/
def litK (v : RV) : Lit × DataW Unit := match keyN v with
  | some n => (.int .i64 (n : Int), .nil)
  | none => (.bool false, .nil)
def R0 : Value → Option (DataW Unit × List MemPlace) := fun _ => some (.nil, [])
theorem rg_key (e : Nv) {x : RV × RV × Nat} {n : Nat} (hx : x.1 = .lit (.int .i64 (.ofNat n))) (hn : n ≤ 1000000000000) :
    Go.WideElems.rd Tryz.prog 3 R0 (trE e x) = some ((.int .i64 (n : Int) : Lit), (.nil : DataW Unit)) := by
  have hw : (Lit.int .i64 (n : Int)).wf = true := by
    simp [Lit.wf, IntKind.min, IntKind.max, IntKind.signed, IntKind.bits]
    omega
  have hk : keyOf Tryz.prog 3 (trE e x).key = some (.int .i64 (n : Int)) := by
    have : (trE e x).key = .int .i64 (n : Int) := by unfold trE; rw [hx]; rfl
    rw [this]
    exact keyOf_int_mk Tryz.underlying3 hw
  unfold Go.WideElems.rd
  rw [hk]
  rfl
theorem owns_keys {B : Nat → Prop} {w0 w : World} {e : Nv} {h : Hp} (r : RepH B w0 e h w) {m ck : Nat} {es : List (RV × RV × Nat)} {ns : List Nat} (hm : h.at? m = some (.map es ck)) (hst : stampE ck es = true) (hk : keysN es = some ns) (hnd : nodupN ns = true)
    (hw : ns.all (fun n => Nat.ble n 1000000000000) = true) (hl : Nat.ble ns.length 100000 = true) :
    ∃ D : DataW Unit, w.ownsMap Tryz.prog 3 R0 (e.at_ m) es.length D ∧ Maps.size D = ns.length ∧ (intKeys D).Perm (ns.map fun n : Nat => (n : Int)) := by
  obtain ⟨_, _, hok, _⟩ := r.obj m _ hm
  replace hok : w.heap[e.at_ m]? = some (.map (es.map (trE e)).toArray ck) := hok
  have hkk := keysN_is hk
  have hlen : es.length = ns.length := by have := congrArg List.length hkk; simpa using this
  have hl := Nat.le_of_ble_eq_true hl
  have hnd := nodupN_ok hnd
  obtain ⟨hb1, hb2⟩ := stampE_ok hst
  have hkey : ∀ x ∈ es, ∃ n, x.1 = .lit (.int .i64 (.ofNat n)) ∧ n ≤ 1000000000000 := fun x hx => by
    have h1 : x.1 ∈ es.map (fun x => x.1) := List.mem_map.2 ⟨x, hx, rfl⟩
    rw [hkk] at h1
    obtain ⟨n, hn, he⟩ := List.mem_map.1 h1
    exact ⟨n, he.symm, all_ble hw n hn⟩
  have hrg : (es.map (trE e)).map (rg Tryz.prog 3 R0) = ns.map fun n : Nat => ((.int .i64 (n : Int) : Lit), (.nil : DataW Unit)) := by
    rw [List.map_map]
    have h1 : es.map (rg Tryz.prog 3 R0 ∘ trE e) = (es.map fun x => x.1).map litK := by
      rw [List.map_map]
      refine List.map_congr_left fun x hx => ?_
      obtain ⟨n, h1, h2⟩ := hkey x hx
      have h3 : rg Tryz.prog 3 R0 (trE e x) = litK x.1 := by
        rw [Go.WideElems.rg_of (rg_key e h1 h2), h1]
        rfl
      simp only [Function.comp_apply]
      exact h3
    rw [h1, hkk, List.map_map]
    rfl
  refine ⟨.map (((es.map (trE e)).map (rg Tryz.prog 3 R0)).foldr DataW.insert []), ⟨_, ck, hok, ⟨?_, ⟨?_, ?_, ?_⟩, ?_⟩, by simp, rfl⟩, ?_, ?_⟩
  · simp [maxLen]; omega
  · intro x hx
    obtain ⟨y, hy, rfl⟩ := List.mem_map.1 hx
    exact hb1 y hy
  · show ((es.map (trE e)).map _).Nodup
    rw [List.map_map]
    exact hb2
  · show ((es.map (trE e)).map _).Nodup
    rw [List.map_map]
    have h1 : es.map ((fun x : MapEntry => x.key) ∘ trE e) = (es.map fun x => x.1).map (RV.tr e) := by
      rw [List.map_map]; rfl
    rw [h1, hkk, List.map_map]
    refine List.pairwise_map.2 (hnd.imp fun {a b} hne hab => hne ?_)
    have hab : Value.int .i64 (Int.ofNat a) = Value.int .i64 (Int.ofNat b) := hab
    injection hab with _ hab
    exact Int.ofNat.inj hab
  · intro x hx
    obtain ⟨y, hy, rfl⟩ := List.mem_map.1 hx
    obtain ⟨n, h1, h2⟩ := hkey y hy
    exact ⟨_, rg_key e h1 h2⟩
  · show (List.foldr DataW.insert [] _).length = _
    rw [(sorted_perm _).length_eq]
    simp [hlen]
  · show (List.map _ (List.foldr DataW.insert [] _)).Perm _
    refine ((sorted_perm _).map _).trans ?_
    rw [hrg, List.map_map]
    exact List.Perm.of_eq (List.map_congr_left fun n _ => rfl)
/-! ### the order -/
theorem insN_perm (n : Nat) : ∀ l : List Nat, (insN n l).Perm (n :: l)
  | [] => .refl _
  | m :: r => by
    unfold insN
    split
    · exact .refl _
    · exact ((insN_perm n r).cons m).trans (List.Perm.swap n m r)
theorem sortN_perm : ∀ l : List Nat, (sortN l).Perm l
  | [] => .refl _
  | n :: r => (insN_perm n (sortN r)).trans ((sortN_perm r).cons n)
theorem insN_sorted (n : Nat) : ∀ {l : List Nat}, l.Pairwise (· ≤ ·) → (insN n l).Pairwise (· ≤ ·)
  | [], _ => by unfold insN; exact List.pairwise_singleton ..
  | m :: r, h => by
    obtain ⟨h1, h2⟩ := List.pairwise_cons.1 h
    unfold insN
    split
    · rename_i hb
      have hb := Nat.le_of_ble_eq_true hb
      refine List.pairwise_cons.2 ⟨fun x hx => ?_, h⟩
      rcases List.mem_cons.1 hx with rfl | hx
      · exact hb
      · exact Nat.le_trans hb (h1 x hx)
    · rename_i hb
      have hb := not_ble hb
      refine List.pairwise_cons.2 ⟨fun x hx => ?_, insN_sorted n h2⟩
      rcases List.mem_cons.1 ((insN_perm n r).mem_iff.1 hx) with rfl | hx
      · omega
      · exact h1 x hx
theorem sortN_sorted : ∀ l : List Nat, (sortN l).Pairwise (· ≤ ·)
  | [] => List.Pairwise.nil
  | n :: r => insN_sorted n (sortN_sorted r)
theorem merge_sortN {ss : List Int} {ns : List Nat} (h : ss.Perm (ns.map fun n : Nat => (n : Int))) : ss.mergeSort leI = (sortN ns).map fun n : Nat => (n : Int) := by
  have tr : ∀ a b c : Int, leI a b = true → leI b c = true → leI a c = true := fun a b c h1 h2 => by simp only [leI, decide_eq_true_eq] at *; exact Int.le_trans h1 h2
  have to : ∀ a b : Int, (leI a b || leI b a) = true := fun a b => by simp only [leI, Bool.or_eq_true, decide_eq_true_eq]; exact Int.le_total a b
  refine List.Perm.eq_of_pairwise (le := fun a b => leI a b = true) (fun a b _ _ h1 h2 => ?_) (List.pairwise_mergeSort tr to ss) ?_ ((List.mergeSort_perm ss leI).trans (h.trans ((sortN_perm ns).map _).symm))
  · simp only [leI, decide_eq_true_eq] at h1 h2
    exact Int.le_antisymm h1 h2
  · refine List.pairwise_map.2 ((sortN_sorted ns).imp fun {a b} hab => ?_)
    simp only [leI, decide_eq_true_eq]
    omega
end Go.Proofs.YtkjgmakaidfgaaaGreatDoor
