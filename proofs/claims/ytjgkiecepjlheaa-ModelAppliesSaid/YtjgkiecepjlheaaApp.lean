/- The walks of model.Apply and model.Table. -/
import Derived.Test.YtjgkiecepjlheaaTab
namespace Go.Proofs.Ytjgkiecepjlheaa
open Go.RowKit

theorem stepsT_take {ps : List Pr} {ws : List Wr} {k : Nat} {p : Wr} (h : ws[k]? = some p) : stepT (stepsT ps (ws.take k)) p = stepsT ps (ws.take (k + 1)) := by
  have : ws.take (k + 1) = ws.take k ++ [p] := by rw [List.take_add_one, h]; rfl
  rw [this]
  simp [stepsT]

/-- an own row reads as a table; its length is at most its capacity -/
theorem own_tb' {w : World} {base n : Nat} {v : Value} {ps : List Pr} (h : w.ownsRow base 40 2 v n (flat ps)) : ∃ A c, v = .slice A n c ∧ n ≤ c ∧ Tb w w.heap.size A n ps := by
  obtain ⟨A, c, rfl, ht⟩ := own_tb h
  refine ⟨A, c, rfl, ?_, ht⟩
  rcases h.2 with ⟨hx, rfl⟩ | ⟨g, cap, cur, hv, hb, hg, hnc, hcm, hsz, htk⟩
  · omega
  · cases hv; exact hnc

set_option maxHeartbeats 1000000 in
theorem apply_any2 (A : Option Addr) (n c : Nat) (ps : List Pr) (D : Option Addr) (m d : Nat) (ws : List Wr) (w : World) (hn : n ≤ 900000) (hm : m ≤ 1000) (hs : Srt ps) (ht : Tb w w.heap.size A n ps) (hw : Wb w w.heap.size D m ws) :
    Calls Try.prog 11 #[.slice A n c, .slice D m d] w fun e w' => ∃ A' n' c', e = .returned (.slice A' n' c') ∧ n' ≤ c' ∧ Tb w' w'.heap.size A' n' (stepsT ps ws) ∧ Below w.heap.size w w' := by
  have hl := hw.1
  have hpl := ht.1
  have HL := Lib.hid hl; clear hl
  have HP := Lib.hid hpl; clear hpl
  go_enter Try.func11, Try.ntmps11
  go_wp2_with (go_at_call 19; refine (clone_any _ _ _ ps _ hn ht).mono ?_; rintro e w1 ⟨v, rfl, hown, hb1⟩)
  have HO := Lib.hid hown; clear hown
  go_loopw [0, 11] (fun v i wr => ∃ k q : Nat, k ≤ m ∧ i = .int .i64 k ∧ wr.ownsRow w.heap.size 40 2 v q (flat (stepsT ps (ws.take k))) ∧ Below w.heap.size w wr) (fun _ i _ => m - (intOf i).toNat)
  case atStart => exact ⟨0, n, by omega, rfl, by simpa [stepsT] using HO.out, hb1⟩
  case round =>
    obtain ⟨k, q, hk, rfl, hown, hb⟩ := hrel
    have hq := own_len hown
    have hql := length_stepsT (ws.take k) ps
    rw [hq, HP.out, List.length_take] at hql
    have hq9 : q ≤ 999999 := by omega
    clear hq hql
    have HO1 := Lib.hid hown; clear hown
    by_cases hlt : k < m
    · obtain ⟨b, o, rfl, hbw, hc⟩ := (hw.below hb).2 (by omega)
      obtain ⟨⟨key, x, g⟩, hp⟩ : ∃ p, ws[k]? = some p := ⟨_, List.getElem?_eq_getElem (by rw [HL.out]; omega)⟩
      obtain ⟨c0, c1, c2⟩ := hc _ _ hp
      simp only at c0 c1 c2
      have hst := stepsT_take (ps := ps) hp
      have HST := Lib.hid hst
      clear hst hc hp
      go_wp2_with (go_at_call 18; refine (write_any w.heap.size q _ (stepsT ps (ws.take k)) _ _ _ _ hq9 (by have := hb.size; simp; omega) (srt_stepsT hs _) (HO1.out.alloc _)).mono ?_; rintro e w2 ⟨v', q', rfl, hown2, hb2⟩)
      rw [HST.out] at hown2
      go_roundw
      case rel => exact ⟨k + 1, q', by omega, by go_num, hown2, (hb.alloc hb.size _).trans hb2⟩
      case measure => simp [intOf]; omega
    · obtain rfl : k = m := by omega
      have htk : ws.take k = ws := List.take_of_length_le (by rw [HL.out]; omega)
      rw [htk] at HO1
      go_wp2
      go_ret
      obtain ⟨A', c', rfl, hc', ht'⟩ := own_tb' HO1.out
      exact ⟨A', q, c', rfl, hc', ht', hb⟩

theorem apply_any (A : Option Addr) (n c : Nat) (ps : List Pr) (D : Option Addr) (m d : Nat) (ws : List Wr) (w : World) (hn : n ≤ 900000) (hm : m ≤ 1000) (hs : Srt ps) (ht : Tb w w.heap.size A n ps) (hw : Wb w w.heap.size D m ws) :
    Calls Try.prog 11 #[.slice A n c, .slice D m d] w fun e w' => ∃ A' n' c', e = .returned (.slice A' n' c') ∧ Tb w' w'.heap.size A' n' (stepsT ps ws) ∧ Below w.heap.size w w' :=
  (apply_any2 A n c ps D m d ws w hn hm hs ht hw).mono fun _ _ ⟨A', n', c', he, _, ht', hb⟩ => ⟨A', n', c', he, ht', hb⟩

theorem wrs_take {cs : List Cm} {k : Nat} {x : Cm} (h : cs[k]? = some x) : tableT (wrs (cs.take (k + 1))) = stepsT (tableT (wrs (cs.take k))) x.ws := by
  have : cs.take (k + 1) = cs.take k ++ [x] := by rw [List.take_add_one, h]; rfl
  rw [this]
  simp [tableT, wrs]

theorem length_tableT (cs : List Cm) (h : ∀ x ∈ cs, x.ws.length ≤ 20) : (tableT (wrs cs)).length ≤ cs.length * 20 := by
  unfold tableT
  suffices H : ∀ (l : List Cm) (t : List Pr), (∀ x ∈ l, x.ws.length ≤ 20) → ((wrs l).foldl stepsT t).length ≤ t.length + l.length * 20 by
    have := H cs [] h
    simpa using this
  intro l
  induction l with
  | nil => intro t _; simp [wrs]
  | cons x l ih =>
    intro t h
    have h1 := ih (stepsT t x.ws) (fun y hy => h y (List.mem_cons_of_mem _ hy))
    have h2 := length_stepsT x.ws t
    have h3 := h x (List.mem_cons_self ..)
    simp only [wrs, List.map_cons, List.foldl_cons, List.length_cons] at h1 ⊢
    omega

set_option maxHeartbeats 1000000 in
theorem table_any (A : Option Addr) (n c : Nat) (cs : List Cm) (w : World) (hf : Few cs) (ht : Cb w w.heap.size A n cs) :
    Calls Try.prog 10 #[.slice A n c] w fun e w' => ∃ A' n' c', e = .returned (.slice A' n' c') ∧ Tb w' w'.heap.size A' n' (tableT (wrs cs)) ∧ Below w.heap.size w w' := by
  have hl := ht.1
  have hn : n ≤ 40 := by have := hf.1; omega
  have HL := Lib.hid hl; clear hl
  go_enter Try.func10, Try.ntmps10
  go_wp2
  go_loopw [3, 10] (fun v i wr => ∃ k q : Nat, k ≤ n ∧ i = .int .i64 k ∧ wr.ownsRow w.heap.size 40 2 v q (flat (tableT (wrs (cs.take k)))) ∧ Below w.heap.size w wr) (fun _ i _ => n - (intOf i).toNat)
  case atStart => exact ⟨0, 0, by omega, rfl, World.ownsRow_nil _ _ _ _, Below.refl _ _⟩
  case round =>
    obtain ⟨k, q, hk, rfl, hown, hb⟩ := hrel
    have HO1 := Lib.hid hown; clear hown
    by_cases hlt : k < n
    · obtain ⟨b, o, rfl, hbw, hc⟩ := (ht.below hb).2 (by omega)
      obtain ⟨⟨tl, lsn, node, xn, act, lev, told, lost, XA, xm, xc, xws⟩, hx⟩ : ∃ x, cs[k]? = some x := ⟨_, List.getElem?_eq_getElem (by rw [HL.out]; omega)⟩
      obtain ⟨c0, c1, c2, c3, c4, c5, c6, c7, c8, hw⟩ := hc _ _ hx
      have hxl : xws.length ≤ 20 := hf.2 _ (List.mem_of_getElem? hx)
      simp only at c0 c1 c2 c3 c4 c5 c6 c7 c8 hw
      have hwl := hw.1
      have hm : xm ≤ 20 := by omega
      have HW := Lib.hid hwl
      have hst := wrs_take hx
      simp only at hst
      have HST := Lib.hid hst
      have htl : (tableT (wrs (cs.take k))).length ≤ 800 := by
        have := length_tableT (cs.take k) (fun y hy => hf.2 y (List.mem_of_mem_take hy))
        have h2 : (cs.take k).length ≤ 40 := by rw [List.length_take, HL.out]; omega
        omega
      have HTL := Lib.hid htl
      clear hst hc hx hxl hwl htl
      go_wp2_with fail
      obtain ⟨wo, rfl⟩ : ∃ wo : World, wo = wr := ⟨_, rfl⟩
      go_loopw [3, 17] (fun v i wr => ∃ j r : Nat, j ≤ xm ∧ i = .int .i64 j ∧ wr.ownsRow w.heap.size 40 2 v r (flat (stepsT (tableT (wrs (cs.take k))) (xws.take j))) ∧ Below w.heap.size wo wr) (fun _ i _ => xm - (intOf i).toNat)
      case atStart => exact ⟨0, q, by omega, rfl, by simpa [stepsT] using HO1.out.alloc _, (Below.refl _ _).alloc hb.size _⟩
      case round =>
        obtain ⟨j, r, hj, rfl, hown, hb2⟩ := hrel
        have hq := own_len hown
        have hql := length_stepsT (xws.take j) (tableT (wrs (cs.take k)))
        have h5 := HTL.out
        have h6 := HW.out
        rw [hq, List.length_take] at hql
        have hq9 : r ≤ 999999 := by omega
        clear hq hql h5 h6
        have HO2 := Lib.hid hown; clear hown
        by_cases hlt2 : j < xm
        · obtain ⟨b', o', rfl, hbw', hc⟩ := (hw.below hb2).2 (by omega)
          obtain ⟨⟨key, y, g⟩, hp⟩ : ∃ p, xws[j]? = some p := ⟨_, List.getElem?_eq_getElem (by rw [HW.out]; omega)⟩
          obtain ⟨d0, d1, d2⟩ := hc _ _ hp
          simp only at d0 d1 d2
          have hst := stepsT_take (ps := tableT (wrs (cs.take k))) hp
          have HS2 := Lib.hid hst
          clear hst hc hp
          go_wp2_with (go_at_call 18; refine (write_any w.heap.size r _ _ _ _ _ _ hq9 (by have := hb2.size; have := hb.size; simp; omega) (srt_stepsT (srt_tableT _) _) (HO2.out.alloc _)).mono ?_; rintro e w2 ⟨v', q', rfl, hown2, hb3⟩)
          rw [HS2.out] at hown2
          go_roundw
          case rel => exact ⟨j + 1, q', by omega, by go_num, hown2, (hb2.alloc (by have := hb2.size; have := hb.size; omega) _).trans hb3⟩
          case measure => simp [intOf]; omega
        · obtain rfl : j = xm := by omega
          have htk : xws.take j = xws := List.take_of_length_le (by rw [HW.out]; omega)
          rw [htk, ← HST.out] at HO2
          go_wp2
          go_roundw
          case rel => exact ⟨k + 1, r, by omega, by go_num, HO2.out, hb.trans hb2⟩
          case measure => simp [intOf]; omega
    · obtain rfl : k = n := by omega
      have htk : cs.take k = cs := List.take_of_length_le (by rw [HL.out]; omega)
      rw [htk] at HO1
      go_wp2
      go_ret
      obtain ⟨A', c', rfl, ht'⟩ := own_tb HO1.out
      exact ⟨A', q, c', rfl, ht', hb⟩

end Go.Proofs.Ytjgkiecepjlheaa
