/- The walk of model.write. -/
import Derived.Test.YtjgkiecepjlheaaIns
namespace Go.Proofs.Ytjgkiecepjlheaa
open Go.RowKit

theorem own_below {w w' : World} {base e size n : Nat} {v : Value} {xs : List Value} (h : w.ownsRow base e size v n xs) (hb : Below w.heap.size w w') : w'.ownsRow base e size v n xs :=
  h.kept (grownBy_of_below none hb (Nat.le_refl _)) (by cases hv : v.ownBlock <;> simp)
theorem own_len {w : World} {base n : Nat} {v : Value} {ps : List Pr} (h : w.ownsRow base 40 2 v n (flat ps)) : ps.length = n := by
  have := h.1; rw [flat_length] at this; omega
/-- an own row reads as a table -/
theorem own_tb {w : World} {base n : Nat} {v : Value} {ps : List Pr} (h : w.ownsRow base 40 2 v n (flat ps)) : ∃ A c, v = .slice A n c ∧ Tb w w.heap.size A n ps := by
  have hl := own_len h
  rcases h.2 with ⟨rfl, rfl⟩ | ⟨g, cap, cur, rfl, hb, hg, hnc, hcm, hsz, htk⟩
  · exact ⟨none, 0, rfl, hl, fun x => by omega⟩
  · refine ⟨_, _, rfl, hl, fun _ => ⟨g, 0, rfl, (Array.getElem?_eq_some_iff.1 hg).1, fun k p hp => ?_⟩⟩
    obtain ⟨h1, h2⟩ := flat_get hp
    have := h.cells (g := g) rfl
    constructor
    · have := this _ _ h1
      rwa [Addr.add_lit] at this
    · have := this _ _ h2
      rwa [Addr.add_lit, ← Nat.add_assoc] at this
theorem grown_below {w w' : World} {base : Nat} {row : Option Nat} (h : w.grownBy w' row) (hb : base ≤ w.heap.size) (hr : ∀ k, row = some k → base ≤ k) : Below base w w' :=
  (Below.refl _ _).grown h hb hr

theorem box_three {w w' : World} {a b c : Value} {t : TypeId} (hb : Below (w.alloc (.cells #[a, b, c] t)).heap.size (w.alloc (.cells #[a, b, c] t)) w') :
    w'.cell? ⟨w.heap.size, 0, none⟩ = some a ∧ w'.cell? ⟨w.heap.size, 1, none⟩ = some b ∧ w'.cell? ⟨w.heap.size, 2, none⟩ = some c ∧ w.heap.size < w'.heap.size ∧ Below w.heap.size w w' := by
  have hB : Blk (w.alloc (.cells #[a, b, c] t)) w.heap.size t [a, b, c] := Blk.new w t [a, b, c]
  have hB' := hB.below hb (by simp)
  refine ⟨by rw [hB'.cell]; rfl, by rw [hB'.cell]; rfl, by rw [hB'.cell]; rfl, hB'.lt, ?_⟩
  exact ((Below.refl _ _).alloc (Nat.le_refl _) _).trans (hb.mono (by simp))

theorem flat_set {ps : List Pr} {k x : ByteArray} (hh : hasT ps k = true) : (flat ps).set (pos ps k * 2 + 1) (.string x) = flat (stepT ps (k, x, false)) := by
  rw [stepT_set hh]
  obtain ⟨p, hp, hk⟩ := hasT_iff.1 hh
  obtain ⟨hl, he⟩ := List.getElem?_eq_some_iff.1 hp
  have e : ps = ps.take (pos ps k) ++ p :: ps.drop (pos ps k + 1) := by
    conv => lhs; rw [← List.take_append_drop (pos ps k) ps, List.drop_eq_getElem_cons hl, he]
  have ht : (flat (ps.take (pos ps k))).length = pos ps k * 2 := by rw [flat_length, List.length_take]; omega
  have f : flat ps = flat (ps.take (pos ps k)) ++ .string p.1 :: .string p.2 :: flat (ps.drop (pos ps k + 1)) := by
    conv => lhs; rw [e]
    rw [flat_append, flat_cons]
  rw [f, flat_append, flat_cons, List.set_append_right _ _ (by omega), ht]
  rw [show pos ps k * 2 + 1 - pos ps k * 2 = 1 by omega]
  simp [hk]

/-- a store into an own row -/
theorem own_set {w : World} {base g n cap : Nat} {ps qs : List Pr} {j : Nat} {u : Value} (h : w.ownsRow base 40 2 (.slice (some ⟨g, 0, none⟩) n cap) n (flat ps)) (hj : j < n * 2) (hq : (flat ps).set j u = flat qs) (hql : qs.length = n) :
    (w.setCell ⟨g, j, none⟩ u).ownsRow base 40 2 (.slice (some ⟨g, 0, none⟩) n cap) n (flat qs) := by
  obtain ⟨hb, hl, hn, hm, R, hB, hR⟩ := own_open h
  refine own_shut (L := (flat ps ++ R).set j u) hb hql hn hm ?_ (by rw [List.length_set, List.length_append, flat_length, hl]; omega) ?_
  · unfold Blk at hB ⊢
    simp [World.setCell, Array.getElem?_modify, hB]
  · rw [List.set_append_left _ _ (by rw [flat_length, hl]; omega), hq, List.take_left' (by rw [flat_length, hql])]

theorem own_cell {w : World} {base b n cap j : Nat} {ps : List Pr} {q : Pr} (h : w.ownsRow base 40 2 (.slice (some ⟨b, 0, none⟩) n cap) n (flat ps)) (hq : ps[j]? = some q) (_ : ps.length = n) :
    w.cell? ⟨b, j * 2 + 1, none⟩ = some (.string q.2) ∧ w.frozen? ⟨b, j * 2 + 1, none⟩ = false := by
  obtain ⟨hb, hl, hn, hm, R, hB, hR⟩ := own_open h
  refine ⟨?_, hB.frozen _⟩
  have h2 := (flat_get hq).2
  rw [hB.cell, List.getElem?_append_left (List.getElem?_eq_some_iff.1 h2).1]
  exact h2

set_option maxHeartbeats 1000000 in
theorem write_any (base n : Nat) (v : Value) (ps : List Pr) (k x : ByteArray) (g : Bool) (w : World) (hn : n ≤ 999999) (hbw : base ≤ w.heap.size) (hs : Srt ps) (hown : w.ownsRow base 40 2 v n (flat ps)) :
    Calls Try.prog 18 #[v, .agg #[.string k, .string x, .bool g]] w fun e w' =>
      ∃ v' n', e = .returned v' ∧ w'.ownsRow base 40 2 v' n' (flat (stepT ps (k, x, g))) ∧ Below base w w' := by
  obtain ⟨A, c, rfl, ht⟩ := own_tb hown
  have hown1 := hown.alloc (.cells #[.string k, .string x, .bool g] 43)
  have ht1 : Tb (w.alloc (.cells #[.string k, .string x, .bool g] 43)) (w.alloc (.cells #[.string k, .string x, .bool g] 43)).heap.size A n ps :=
    (ht.below ((Below.refl _ _).alloc (Nat.le_refl _) _)).more (by simp)
  have hb0 : Below w.heap.size w (w.alloc (.cells #[.string k, .string x, .bool g] 43)) := (Below.refl _ _).alloc (Nat.le_refl _) _
  have hl := own_len hown
  have hp := pos_le ps k
  cases hh : hasT ps k
  · cases g
    · have hst := stepT_insert (v := x) hh
      have HST := Lib.hid hst; clear hst
      have HL := Lib.hid hl
      rw [hl] at hp
      clear hl
      go_enter Try.func18, Try.ntmps18
      go_wp2_with (first
        | (go_at_call 20; refine (find_any _ _ _ ps _ _ (by omega) ht1 hs).mono ?_; rintro e w' ⟨he, hb1⟩; unfold searchR at he; subst he
           obtain ⟨c0, c1, c2, hsz, hb2⟩ := box_three hb1
           have hown2 := own_below hown1 hb1
           have HO := Lib.hid hown2; clear hown2)
        | (go_at_call 23
           refine (ins_any base n (pos ps k) w'.heap.size _ ps (k, x) _ hp (by omega) (by have := hb2.size; simp; omega) (Blk.new w' 40 _) (fun hx => by have := HO.out.lt _ hx; omega) (HO.out.alloc _)).mono ?_
           rintro e w2 ⟨v', rfl, hown3, hgr⟩))
      go_ret
      have hwb : Below base w (w'.alloc (.cells #[.string k, .string x] 40)) := (hb2.mono hbw).alloc (by have := hb2.size; omega) _
      refine ⟨v', n + 1, rfl, by rw [HST.out]; exact hown3, hwb.grown hgr (by have := hb2.size; simp; omega) (fun j hj => (HO.out.lt j hj).1)⟩
    · have hst := stepT_gone (v := x) hh
      have HST := Lib.hid hst; clear hst
      have HL := Lib.hid hl; clear hl
      go_enter Try.func18, Try.ntmps18
      go_wp2_with (go_at_call 20; refine (find_any _ _ _ ps _ _ (by omega) ht1 hs).mono ?_; rintro e w' ⟨he, hb1⟩; unfold searchR at he; subst he; obtain ⟨c0, c1, c2, hsz, hb2⟩ := box_three hb1)
      go_ret
      exact ⟨_, n, rfl, by rw [HST.out]; exact own_below hown1 hb1, hb2.mono hbw⟩
  · obtain ⟨q, hq, hqk⟩ := hasT_iff.1 hh
    have hlt : pos ps k < n := by have := (List.getElem?_eq_some_iff.1 hq).1; omega
    obtain ⟨b, o, hA, hrest⟩ := ht.2 (by omega)
    clear hrest
    obtain ⟨rfl, rfl⟩ : A = some ⟨b, 0, none⟩ ∧ o = 0 := by
      rcases hown.2 with ⟨hx, _⟩ | ⟨g', cap', cur, hv, _⟩
      · cases hx; cases hA
      · cases hv; cases hA; exact ⟨rfl, rfl⟩
    clear hA
    cases g
    · have hst := flat_set (x := x) hh
      have hql : (stepT ps (k, x, false)).length = n := by
        rw [stepT_set hh]; simp; omega
      have HST := Lib.hid hst; clear hst
      have HL := Lib.hid hl; clear hl
      have HQ := Lib.hid hq; clear hq
      have HK := Lib.hid hqk; clear hqk
      have HQL := Lib.hid hql; clear hql
      have hpm := hown.lt b rfl
      go_enter Try.func18, Try.ntmps18
      go_wp2_with (go_at_call 20; refine (find_any _ _ _ ps _ _ (by omega) ht1 hs).mono ?_; rintro e w' ⟨he, hb1⟩; unfold searchR at he; subst he
                   obtain ⟨c0, c1, c2, hsz, hb2⟩ := box_three hb1
                   have hown2 := own_below hown1 hb1
                   obtain ⟨hcell, hfrz⟩ := own_cell hown2 HQ.out (by rw [HL.out])
                   have HO := Lib.hid hown2; clear hown2)
      go_ret
      refine ⟨_, n, rfl, ?_, (hb2.mono hbw).setCell hpm.1 _⟩
      have := own_set (j := pos ps k * 2 + 1) (u := .string x) HO.out (by omega) HST.out HQL.out
      exact this
    · have hst := stepT_delete (v := x) hh
      have HST := Lib.hid hst; clear hst
      have HL := Lib.hid hl; clear hl
      have HQ := Lib.hid hq; clear hq
      have HK := Lib.hid hqk; clear hqk
      go_enter Try.func18, Try.ntmps18
      go_wp2_with (first
        | (go_at_call 20; refine (find_any _ _ _ ps _ _ (by omega) ht1 hs).mono ?_; rintro e w' ⟨he, hb1⟩; unfold searchR at he; subst he
           obtain ⟨c0, c1, c2, hsz, hb2⟩ := box_three hb1
           have hown2 := own_below hown1 hb1
           have HO := Lib.hid hown2; clear hown2)
        | (go_at_call 22; refine (del_any base b n _ _ ps _ hlt (by omega) HO.out).mono ?_; rintro e w2 ⟨rfl, hown3, hgr⟩))
      go_ret
      refine ⟨_, n - 1, rfl, by rw [HST.out]; exact hown3, (hb2.mono hbw).grown hgr (by have := hb2.size; omega) (fun j hj => ?_)⟩
      cases hj
      exact (hown.lt b rfl).1

end Go.Proofs.Ytjgkiecepjlheaa
