/- Oracles: slices.Sorted of a map's keys that are strings. -/
import Derived.Test.YtlfljoeafpimpaaGreatDoorSrk
import Derived.Shelf.SlIter.Nil
namespace Go.Proofs.YtlfljoeafpimpaaGreatDoor
open Go.RowKit Go.Maps Go.Sort
open Go.WideElems (Fit rg)
open Go.WideShapes (sorted_perm)

/-! ### the order on strings -/
def ltB : List UInt8 → List UInt8 → Bool
  | _, [] => false
  | [], _ :: _ => true
  | a :: r, b :: s => match Nat.ble (a.toNat + 1) b.toNat with
    | true => true
    | false => match Nat.beq a.toNat b.toNat with
      | true => ltB r s
      | false => false
theorem ltB_iff : ∀ x y : List UInt8, ltB x y = true ↔ x < y
  | [], [] => by simp [ltB]
  | a :: r, [] => by simp [ltB]
  | [], b :: s => by simp [ltB]
  | a :: r, b :: s => by
    have ih := ltB_iff r s
    unfold ltB
    rw [List.cons_lt_cons_iff]
    cases h1 : Nat.ble (a.toNat + 1) b.toNat
    · have h1 := not_ble h1
      cases h2 : Nat.beq a.toNat b.toNat
      · have h2 := Nat.ne_of_beq_eq_false h2
        simp only [Bool.false_eq_true, false_iff]
        rintro (h | ⟨rfl, _⟩)
        · have := UInt8.lt_iff_toNat_lt.1 h
          omega
        · exact h2 rfl
      · have h2 := Nat.eq_of_beq_eq_true h2
        have hab : a = b := UInt8.toNat_inj.1 h2
        subst hab
        simp [ih, UInt8.lt_irrefl]
    · have h1 := Nat.le_of_ble_eq_true h1
      simp only [true_iff]
      exact .inl (UInt8.lt_iff_toNat_lt.2 h1)
def bsL (s : ByteArray) : List UInt8 := s.data.toList
theorem encStr_bsL (s : ByteArray) : encStr (bsL s) = .string s := by
  simp [encStr, bsL]
theorem bsL_inj {a b : ByteArray} (h : bsL a = bsL b) : a = b := by
  have := congrArg encStr h
  rw [encStr_bsL, encStr_bsL] at this
  injection this
def insB (n : ByteArray) : List ByteArray → List ByteArray
  | [] => [n]
  | m :: r => match ltB (bsL m) (bsL n) with
    | false => n :: m :: r
    | true => m :: insB n r
def sortB : List ByteArray → List ByteArray
  | [] => []
  | n :: r => insB n (sortB r)
def eqB (x y : List UInt8) : Bool := match ltB x y, ltB y x with
  | false, false => true
  | _, _ => false
theorem eqB_self (x : List UInt8) : eqB x x = true := by
  have h : ltB x x = false := by
    cases h : ltB x x with
    | false => rfl
    | true => exact (List.lt_irrefl x ((ltB_iff x x).1 h)).elim
  unfold eqB
  rw [h]
def freeB (n : List UInt8) : List ByteArray → Bool
  | [] => true
  | m :: r => match eqB n (bsL m) with
    | true => false
    | false => freeB n r
theorem freeB_ok {n : List UInt8} : ∀ {l : List ByteArray}, freeB n l = true → ∀ m ∈ l, n ≠ bsL m
  | [], _, m, hm => by cases hm
  | x :: r, h, m, hm => by
    unfold freeB at h
    split at h
    · cases h
    · rename_i hx
      rcases List.mem_cons.1 hm with rfl | hm
      · rintro rfl
        rw [eqB_self] at hx
        cases hx
      · exact freeB_ok h m hm
def nodupB : List ByteArray → Bool
  | [] => true
  | m :: r => match freeB (bsL m) r with
    | true => nodupB r
    | false => false
theorem nodupB_ok : ∀ {l : List ByteArray}, nodupB l = true → l.Pairwise (fun a b => bsL a ≠ bsL b)
  | [], _ => List.Pairwise.nil
  | x :: r, h => by
    unfold nodupB at h
    split at h
    · rename_i hx
      exact List.pairwise_cons.2 ⟨freeB_ok hx, nodupB_ok h⟩
    · cases h
def keyB : RV → Option ByteArray
  | .lit (.string s) => match Nat.ble s.data.toList.length 100000 with
    | true => some s
    | false => none
  | _ => none
def keysB : List (RV × RV × Nat) → Option (List ByteArray)
  | [] => some []
  | x :: r => match keyB x.1, keysB r with
    | some n, some l => some (n :: l)
    | _, _ => none
theorem keyB_is {v : RV} {n : ByteArray} (h : keyB v = some n) : v = .lit (.string n) ∧ n.data.toList.length ≤ 100000 := by
  unfold keyB at h
  split at h
  · split at h
    · rename_i hb
      injection h with h; subst h; exact ⟨rfl, Nat.le_of_ble_eq_true hb⟩
    · cases h
  · cases h
theorem keysB_is : ∀ {es : List (RV × RV × Nat)} {ns : List ByteArray}, keysB es = some ns → es.map (fun x => x.1) = ns.map (fun n => .lit (.string n)) ∧ ∀ n ∈ ns, n.data.toList.length ≤ 100000
  | [], ns, h => by injection h with h; subst h; exact ⟨rfl, fun _ h => by cases h⟩
  | x :: r, ns, h => by
    unfold keysB at h
    split at h
    · rename_i n l h1 h2
      injection h with h; subst h
      obtain ⟨e1, e2⟩ := keysB_is h2
      obtain ⟨e3, e4⟩ := keyB_is h1
      refine ⟨?_, fun n hn => ?_⟩
      · rw [List.map_cons, e1, e3]; rfl
      · rcases List.mem_cons.1 hn with rfl | hn
        · exact e4
        · exact e2 _ hn
    · cases h
/-! ### the map's keys as the kit reads them -/
def litBK (v : RV) : Lit × DataW Unit := match v with
  | .lit (.string n) => (.string (bsL n), .nil)
  | _ => (.bool false, .nil)
theorem rg_keyB (e : Nv) {x : RV × RV × Nat} {n : ByteArray} (hx : x.1 = .lit (.string n)) (hn : n.data.toList.length ≤ 100000) :
    Go.WideElems.rd Tryz.prog 9 R0 (trE e x) = some ((.string (bsL n) : Lit), (.nil : DataW Unit)) := by
  have hk : keyOf Tryz.prog 9 (trE e x).key = some (.string (bsL n)) := by
    have : (trE e x).key = .string n := by unfold trE; rw [hx]; rfl
    rw [this]
    simp only [keyOf, Tryz.underlying9, mapKey]
    rw [if_pos (by simp only [maxLen]; simp at hn; omega)]
    rfl
  unfold Go.WideElems.rd
  rw [hk]
  rfl
theorem owns_keysB {B : Nat → Prop} {w0 w : World} {e : Nv} {h : Hp} (r : RepH B w0 e h w) {m ck : Nat} {es : List (RV × RV × Nat)} {ns : List ByteArray} (hm : h.at? m = some (.map es ck)) (hst : stampE ck es = true) (hk : keysB es = some ns) (hnd : nodupB ns = true)
    (hl : Nat.ble ns.length 100000 = true) :
    ∃ D : DataW Unit, w.ownsMap Tryz.prog 9 R0 (e.at_ m) es.length D ∧ Maps.size D = ns.length ∧ (strKeys D).Perm (ns.map bsL) := by
  obtain ⟨_, _, hok, _⟩ := r.obj m _ hm
  replace hok : w.heap[e.at_ m]? = some (.map (es.map (trE e)).toArray ck) := hok
  obtain ⟨hkk, hsm⟩ := keysB_is hk
  have hlen : es.length = ns.length := by have := congrArg List.length hkk; simpa using this
  have hl := Nat.le_of_ble_eq_true hl
  have hnd := nodupB_ok hnd
  obtain ⟨hb1, hb2⟩ := stampE_ok hst
  have hkey : ∀ x ∈ es, ∃ n : ByteArray, x.1 = .lit (.string n) ∧ n.data.toList.length ≤ 100000 := fun x hx => by
    have h1 : x.1 ∈ es.map (fun x => x.1) := List.mem_map.2 ⟨x, hx, rfl⟩
    rw [hkk] at h1
    obtain ⟨n, hn, he⟩ := List.mem_map.1 h1
    exact ⟨n, he.symm, hsm n hn⟩
  have hrg : (es.map (trE e)).map (rg Tryz.prog 9 R0) = ns.map fun n => ((.string (bsL n) : Lit), (.nil : DataW Unit)) := by
    rw [List.map_map]
    have h1 : es.map (rg Tryz.prog 9 R0 ∘ trE e) = (es.map fun x => x.1).map litBK := by
      rw [List.map_map]
      refine List.map_congr_left fun x hx => ?_
      obtain ⟨n, h1, h2⟩ := hkey x hx
      have h3 : rg Tryz.prog 9 R0 (trE e x) = litBK x.1 := by
        rw [Go.WideElems.rg_of (rg_keyB e h1 h2), h1]
        rfl
      simp only [Function.comp_apply]
      exact h3
    rw [h1, hkk, List.map_map]
    rfl
  refine ⟨.map (((es.map (trE e)).map (rg Tryz.prog 9 R0)).foldr DataW.insert []), ⟨_, ck, hok, ⟨?_, ⟨?_, ?_, ?_⟩, ?_⟩, by simp, rfl⟩, ?_, ?_⟩
  · simp [maxLen]; omega
  · intro x hx
    obtain ⟨y, hy, rfl⟩ := List.mem_map.1 hx
    exact hb1 y hy
  · show ((es.map (trE e)).map _).Nodup
    rw [List.map_map]
    exact hb2
  · show ((es.map (trE e)).map _).Nodup
    rw [List.map_map]
    have h1 : es.map ((fun x : MapEntry => x.key) ∘ trE e) = (es.map fun x => x.1).map (RV.tr e) := by
      rw [List.map_map]; rfl
    rw [h1, hkk, List.map_map]
    refine List.pairwise_map.2 (hnd.imp fun {a b} hne hab => hne ?_)
    have hab : Value.string a = Value.string b := hab
    injection hab with hab
    rw [hab]
  · intro x hx
    obtain ⟨y, hy, rfl⟩ := List.mem_map.1 hx
    obtain ⟨n, h1, h2⟩ := hkey y hy
    exact ⟨_, rg_keyB e h1 h2⟩
  · show (List.foldr DataW.insert [] _).length = _
    rw [(sorted_perm _).length_eq]
    simp [hlen]
  · show (List.map _ (List.foldr DataW.insert [] _)).Perm _
    refine ((sorted_perm _).map _).trans ?_
    rw [hrg, List.map_map]
    exact List.Perm.of_eq (List.map_congr_left fun n _ => rfl)
/-! ### the order -/
theorem insB_perm (n : ByteArray) : ∀ l : List ByteArray, (insB n l).Perm (n :: l)
  | [] => .refl _
  | m :: r => by
    unfold insB
    split
    · exact .refl _
    · exact ((insB_perm n r).cons m).trans (List.Perm.swap n m r)
theorem sortB_perm : ∀ l : List ByteArray, (sortB l).Perm l
  | [] => .refl _
  | n :: r => (insB_perm n (sortB r)).trans ((sortB_perm r).cons n)
theorem not_ltB {x y : List UInt8} (h : ltB x y = false) : y ≤ x := by
  refine List.not_lt.1 fun hc => ?_
  rw [(ltB_iff x y).2 hc] at h
  cases h
theorem insB_sorted (n : ByteArray) : ∀ {l : List ByteArray}, l.Pairwise (fun a b => bsL a ≤ bsL b) → (insB n l).Pairwise (fun a b => bsL a ≤ bsL b)
  | [], _ => by unfold insB; exact List.pairwise_singleton ..
  | m :: r, h => by
    obtain ⟨h1, h2⟩ := List.pairwise_cons.1 h
    unfold insB
    split
    · rename_i hb
      have hb := not_ltB hb
      refine List.pairwise_cons.2 ⟨fun x hx => ?_, h⟩
      rcases List.mem_cons.1 hx with rfl | hx
      · exact hb
      · exact List.le_trans hb (h1 x hx)
    · rename_i hb
      have hb := (ltB_iff _ _).1 hb
      refine List.pairwise_cons.2 ⟨fun x hx => ?_, insB_sorted n h2⟩
      rcases List.mem_cons.1 ((insB_perm n r).mem_iff.1 hx) with rfl | hx
      · exact List.le_of_lt hb
      · exact h1 x hx
theorem sortB_sorted : ∀ l : List ByteArray, (sortB l).Pairwise (fun a b => bsL a ≤ bsL b)
  | [] => List.Pairwise.nil
  | n :: r => insB_sorted n (sortB_sorted r)
theorem merge_sortB {ss : List (List UInt8)} {ns : List ByteArray} (h : ss.Perm (ns.map bsL)) : ss.mergeSort (fun x y => decide (x ≤ y)) = (sortB ns).map bsL := by
  have tr : ∀ a b c : List UInt8, leB a b = true → leB b c = true → leB a c = true := fun a b c h1 h2 => by simp only [leB, decide_eq_true_eq] at *; exact List.le_trans h1 h2
  have to : ∀ a b : List UInt8, (leB a b || leB b a) = true := fun a b => by simp only [leB, Bool.or_eq_true, decide_eq_true_eq]; exact List.le_total a b
  show ss.mergeSort leB = _
  refine List.Perm.eq_of_pairwise (le := fun a b => leB a b = true) (fun a b _ _ h1 h2 => ?_) (List.pairwise_mergeSort tr to ss) ?_ ((List.mergeSort_perm ss leB).trans (h.trans ((sortB_perm ns).map _).symm))
  · simp only [leB, decide_eq_true_eq] at h1 h2
    exact List.le_antisymm h1 h2
  · refine List.pairwise_map.2 ((sortB_sorted ns).imp fun {a b} hab => ?_)
    simp only [leB, decide_eq_true_eq]
    exact hab
theorem sorts_inT (m : Nat) : AnyZ.SortsIn Tryz.prog Tryz.sortedT_ren Fence.wide m :=
  ⟨fun blk off cap ss W hH hblk hsz => callsIn_wide.2 (AnyM.slices_Sort_string Tryz.sortT blk off cap ss W hH hblk hsz),
   fun p cap W => callsIn_wide.2 (AnyM.slices_Sort_string_none Tryz.sortT p cap W)⟩
/-- what sorted keys come to -/
def SortedB (w : World) (ns : List ByteArray) : Ending → World → Prop := fun en w' => ∃ (v : Value) (ss : List (List UInt8)), en = .returned v ∧ ss.Perm (ns.map bsL) ∧
  w'.ownsRow w.heap.size 9 1 v ss.length ((ss.mergeSort (fun x y => decide (x ≤ y))).map encStr) ∧ (v = .slice none 0 0 ↔ ss = []) ∧ Below w.heap.size w w'
theorem trS_strs (e : Nv) : ∀ l : List ByteArray, trS e (l.map fun n => .one (.lit (.string n))) = (l.map bsL).map encStr
  | [] => rfl
  | n :: l => by
    rw [List.map_cons, trS, trS_strs e l, List.map_cons, List.map_cons, encStr_bsL]; rfl
theorem lenS_strs : ∀ l : List ByteArray, lenS (l.map fun n => .one (.lit (.string n))) = l.length
  | [] => rfl
  | n :: l => by
    rw [List.map_cons, lenS, lenS_strs l, List.length_cons]
    show 1 + _ = _
    omega
theorem ltS_strs (k : Nat) : ∀ l : List ByteArray, ltS k (l.map fun n => .one (.lit (.string n)))
  | [] => trivial
  | _ :: l => ⟨trivial, ltS_strs k l⟩
theorem sortedB_gives {B : Nat → Prop} {w0 w w' : World} {e : Nv} {h : Hp} {ns : List ByteArray} {en : Ending} (r : RepH B w0 e h w) (hroom : h.room = true) (hg : SortedB w ns en w') :
    (ns = [] → Gives B w0 e h nilS h en w') ∧ (ns ≠ [] → Gives B w0 e h (.slu h.nx 0 ns.length 0) (h.add (.row ((sortB ns).map fun n => .one (.lit (.string n))) 9 1)) en w') := by
  obtain ⟨v, ss, rfl, hp, hrow, hnil, hb⟩ := hg
  have hk := r.kept hb
  have hlen : ss.length = ns.length := by have := hp.length_eq; simpa using this
  refine ⟨fun hn => ?_, fun hn => ?_⟩
  · subst hn
    have hss : ss = [] := List.eq_nil_of_length_eq_zero hlen
    exact ⟨e, Nv.ext.refl _ _, hk, Nat.le_refl _, trivial, hnil.2 hss⟩
  · rcases hrow.2 with ⟨rfl, hz⟩ | ⟨gb, cap, cur, rfl, hbase, hgb, r1, r2, r3, r4⟩
    · exfalso
      apply hn
      exact List.eq_nil_of_length_eq_zero (by omega)
    · have hx := Nv.put_ext e h.nx gb cap
      have hm : (ss.mergeSort (fun x y => decide (x ≤ y))) = (sortB ns).map bsL := merge_sortB hp
      rw [hm] at r4
      have hl2 : (sortB ns).length = ns.length := (sortB_perm ns).length_eq
      refine ⟨e.put h.nx gb cap, hx, hk.name gb cap (Hp.room_lt hroom) (fun hlt => ?_) (fun i x hi => ?_) ⟨cur.toList.drop ss.length, (0, 0), ?_, ?_, frz_zero _⟩ (ltS_strs _ _), Nat.le_succ _, Nat.lt_succ_self _, ?_⟩
      · have := r.below.size; omega
      · have := r.live hi; omega
      · rw [hgb, trS_strs]
        congr 2
        have h4 : cur.toList.take ss.length = ((sortB ns).map bsL).map encStr := by simpa using r4
        rw [← h4, List.take_append_drop]
      · rw [lenS_strs]
        simp only [List.length_drop, Array.length_toList, Nv.put, if_true]
        omega
      · simp only [RV.tr, Nv.put, if_true, Nat.sub_zero, hlen]
noncomputable def sortSO : OrcE := fun xs h => match xs with
  | [.fn (.func f) [] [.ptr c 0]] => match Nat.beq f 331, h.at? c with
    | true, some (.cells [.one (.mp m)] _) => match h.at? m, h.room with
      | some (.map es ck), true => match keysB es with
        | some ns => match stampE ck es, nodupB ns, Nat.ble ns.length 100000 with
          | true, true, true => match ns with
            | [] => some (nilS, h)
            | _ => some (.slu h.nx 0 ns.length 0, h.add (.row ((sortB ns).map fun n => .one (.lit (.string n))) 9 1))
          | _, _, _ => none
        | none => none
      | _, _ => none
    | _, _ => none
  | _ => none
def KeySeqT (f : FuncId) : Prop := (∀ args w, (callFunc f args).run Tryz.prog w = .ok (.enter f args) w) ∧ ∀ (D : DataW Unit) (b c nn : Nat) (w : World), b < w.heap.size → w.cell? ⟨b, 0, none⟩ = some (.map (some c)) → w.ownsMap Tryz.prog 9 R0 c nn D →
  SeqGives Fence.wide 2 Tryz.prog f #[.pointer (some ⟨b, 0, none⟩)] encStr (fun ss => ss.Perm (strKeys D)) (Maps.size D) w
theorem keySeqT {f : FuncId} (hf : f = 331) : KeySeqT f := by
  subst hf
  exact ⟨enters_of Tryz.func331 (by kernel_rfl) rfl, fun D b c nn w hb hcell hown => AnyZ.keys_gives (ρ := Tryz.keysT_ren) { Tryz.keysT with } Fence.wide 2 trivial rfl (by omega) b c nn D w hb hcell hown⟩
theorem sortSO_ok (B : Nat → Prop) (w0 : World) : OrcOk Tryz.prog B w0 239 sortSO := by
  intro xs e h v h' w r hx hv
  refine ⟨⟨Tryz.f239, Tryz.func239, by kernel_rfl, by kernel_rfl⟩, ?_⟩
  unfold sortSO at hv
  split at hv
  · rename_i f c
    split at hv
    · rename_i m t hf hc
      split at hv
      · rename_i es ck hm hroom
        split at hv
        · rename_i ns hns
          split at hv
          · rename_i b1 b2 b4
            obtain ⟨D, hown, hsz, hperm⟩ := owns_keysB r hm b1 hns b2 b4
            have b4 := Nat.le_of_ble_eq_true b4
            have hcell : w.cell? ⟨e.at_ c, 0, none⟩ = some (.map (some (e.at_ m))) := by
              have := r.range hc rfl 0 0 (.map (some (e.at_ m))) rfl
              simpa using this
            have hlive := r.live hc
            have hmax : Maps.size D ≤ maxLen := by rw [hsz]; simp [maxLen]; omega
            have hbytes : Maps.size D * 16 ≤ 140737488355328 := by rw [hsz]; omega
            have hcall : Calls Tryz.prog 239 #[.func (.func f) #[] #[.pointer (some ⟨e.at_ c, 0, none⟩)]] w (SortedB w ns) := by
              obtain ⟨hent, hsq⟩ := keySeqT (Nat.eq_of_beq_eq_true hf)
              have hseq := hsq D (e.at_ c) (e.at_ m) _ w hlive hcell hown
              have cS := AnyZ.sorted_in Tryz.sortedT Fence.wide 5 trivial trivial trivial trivial rfl (by omega) (sorts_inT _) (enters_of Tryz.func330 (by kernel_rfl) rfl) f #[.pointer (some ⟨e.at_ c, 0, none⟩)] trivial hent _ _ hmax hbytes _ hseq
              refine ((callsIn_wide (n := 5)).1 cS).mono fun en w' hg => ?_
              obtain ⟨v, ss, h1, h2, h3⟩ := hg
              exact ⟨v, ss, h1, h2.trans hperm, h3⟩
            refine hcall.mono fun en w' hg => ?_
            have hgv := sortedB_gives r hroom hg
            split at hv
            · injection hv with hv
              injection hv with e1 e2; subst e1 e2
              exact hgv.1 rfl
            · rename_i hne
              injection hv with hv
              injection hv with e1 e2; subst e1 e2
              exact hgv.2 hne
          · cases hv
        · cases hv
      · cases hv
    · cases hv
  · cases hv
end Go.Proofs.YtlfljoeafpimpaaGreatDoor
