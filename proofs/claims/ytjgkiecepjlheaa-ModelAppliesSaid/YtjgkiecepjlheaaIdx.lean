/- The walks of few, table and model.Index. -/
import Derived.Test.YtjgkiecepjlheaaRef
namespace Go.Proofs.Ytjgkiecepjlheaa
open Go.RowKit

instance (cs : List Cm) : Decidable (Few cs) := by unfold Few; exact inferInstance
def fewB (cs : List Cm) : Bool := decide (Few cs)

set_option maxHeartbeats 1000000 in
theorem few_any (A : Option Addr) (n c : Nat) (cs : List Cm) (w : World) (hn : n ≤ 9223372036854775807) (ht : Cb w w.heap.size A n cs) :
    Calls Try.prog 5 #[.slice A n c] w fun e w' => w = w' ∧ e = .returned (.bool (fewB cs)) := by
  have hl := ht.1
  have HL := Lib.hid hl; clear hl
  go_enter Try.func5, Try.ntmps5
  go_wp2
  go_loop [3] (fun i => ∃ k : Nat, k ≤ n ∧ i = .int .i64 k ∧ ∀ j x, j < k → cs[j]? = some x → x.ws.length ≤ 20) (fun i => n - (intOf i).toNat)
  case atStart => exact ⟨0, by omega, rfl, fun _ _ h => by omega⟩
  case round =>
    obtain ⟨k, hk, rfl, hlo⟩ := hrel
    have HLO := Lib.hid hlo; clear hlo
    by_cases hlt : k < n
    · obtain ⟨b, o, rfl, hbw, hc⟩ := ht.2 (by omega)
      obtain ⟨x, hx⟩ : ∃ x, cs[k]? = some x := ⟨_, List.getElem?_eq_getElem (by rw [HL.out]; omega)⟩
      obtain ⟨c0, c1, c2, c3, c4, c5, c6, c7, c8, hw⟩ := hc _ _ hx
      have hwl := hw.1
      have HW := Lib.hid hwl; clear hwl
      have HX := Lib.hid hx; clear hx hc
      clear c0 c1 c2 c3 c4 c5 c6 c7
      by_cases hm : 20 < x.m
      · have hm' : (20 : Int) < (x.m : Int) := by omega
        have hf : fewB cs = false := by
          unfold fewB
          refine decide_eq_false fun h => ?_
          have := h.2 x (List.mem_of_getElem? HX.out)
          have := HW.out
          omega
        have HF := Lib.hid hf; clear hf
        go_wp2
        go_ret
        exact ⟨rfl, ret_bool HF.out.symm⟩
      · have hm' : ¬ (20 : Int) < (x.m : Int) := by omega
        go_wp2
        go_round
        case rel =>
          refine ⟨k + 1, by omega, by go_num, fun j y hj hy => ?_⟩
          by_cases hjk : j = k
          · subst hjk; rw [HX.out] at hy; cases hy; have := HW.out; omega
          · exact HLO.out j y (by omega) hy
        case measure => simp [intOf]; omega
    · obtain rfl : k = n := by omega
      have hf : fewB cs = decide (k ≤ 40) := by
        unfold fewB
        have hall : ∀ x ∈ cs, x.ws.length ≤ 20 := fun x hx => by
          obtain ⟨j, hj⟩ := List.getElem?_of_mem hx
          have := (List.getElem?_eq_some_iff.1 hj).1
          rw [HL.out] at this
          exact HLO.out j x this hj
        exact decide_eq_decide.2 ⟨fun h => by have := h.1; rwa [HL.out] at this, fun h => ⟨by rwa [HL.out], hall⟩⟩
      have HF := Lib.hid hf; clear hf
      by_cases h40 : k ≤ 40
      · have h40' : (k : Int) ≤ 40 := by omega
        go_wp2
        go_ret
        exact ⟨rfl, ret_bool (by rw [HF.out]; simp [h40])⟩
      · have h40' : ¬ (k : Int) ≤ 40 := by omega
        go_wp2
        go_ret
        exact ⟨rfl, ret_bool (by rw [HF.out]; simp [h40])⟩

set_option maxHeartbeats 1000000 in
theorem tbl_any (A : Option Addr) (n c : Nat) (cs : List Cm) (w : World) (hf : Few cs) (ht : Cb w w.heap.size A n cs) :
    Calls Try.prog 8 #[.slice A n c] w fun e w' => ∃ A' n' c', e = .returned (.slice A' n' c') ∧ n' ≤ c' ∧ Tb w' w'.heap.size A' n' (tableT (wrs cs)) ∧ Below w.heap.size w w' := by
  have hl := ht.1
  have hn : n ≤ 40 := by have := hf.1; omega
  have HL := Lib.hid hl; clear hl
  go_enter Try.func8, Try.ntmps8
  go_wp2
  go_loopw [3, 4] (fun v i wr => ∃ (k q : Nat) (A' : Option Addr) (c' : Nat), k ≤ n ∧ i = .int .i64 k ∧ v = .slice A' q c' ∧ q ≤ c' ∧ Tb wr wr.heap.size A' q (tableT (wrs (cs.take k))) ∧ Below w.heap.size w wr) (fun _ i _ => n - (intOf i).toNat)
  case atStart => exact ⟨0, 0, none, 0, by omega, rfl, rfl, by omega, ⟨rfl, fun h => by omega⟩, Below.refl _ _⟩
  case round =>
    obtain ⟨k, q, A', c', hk, rfl, rfl, hqc, ht', hb⟩ := hrel
    by_cases hlt : k < n
    · obtain ⟨b, o, rfl, hbw, hc⟩ := (ht.below hb).2 (by omega)
      obtain ⟨x, hx⟩ : ∃ x, cs[k]? = some x := ⟨_, List.getElem?_eq_getElem (by rw [HL.out]; omega)⟩
      obtain ⟨c0, c1, c2, c3, c4, c5, c6, c7, c8, hw⟩ := hc _ _ hx
      have hxl : x.ws.length ≤ 20 := hf.2 x (List.mem_of_getElem? hx)
      have hwl := hw.1
      have hm : x.m ≤ 1000 := by omega
      have hst := wrs_take hx
      have htl : (tableT (wrs (cs.take k))).length ≤ 800 := by
        have := length_tableT (cs.take k) (fun y hy => hf.2 y (List.mem_of_mem_take hy))
        have h2 : (cs.take k).length ≤ 40 := by rw [List.length_take, HL.out]; omega
        omega
      have hq : q ≤ 900000 := by have := ht'.1; omega
      have HST := Lib.hid hst
      have hw' := hw.more hb.size
      clear hst hc hx hxl hwl htl c0 c1 c2 c3 c4 c5 c6 c7
      go_wp2_with (go_at_call 12; refine (refapply_any _ _ _ _ _ _ _ _ _ hqc hq hm ht' hw').mono ?_; rintro e w2 ⟨A3, n3, c3, rfl, hn3, ht3, hb3⟩)
      go_roundw
      case rel => exact ⟨k + 1, n3, A3, c3, by omega, by go_num, rfl, hn3, by rw [HST.out]; exact ht3, hb.trans (hb3.mono hb.size)⟩
      case measure => simp [intOf]; omega
    · obtain rfl : k = n := by omega
      have htk : cs.take k = cs := List.take_of_length_le (by rw [HL.out]; omega)
      rw [htk] at ht'
      go_wp2
      go_ret
      exact ⟨A', q, c', rfl, hqc, ht', hb⟩

/-- behind how many commits the table is that one, the first time -/
def idxT (cs : List Cm) (t : List Pr) : Int :=
  match (List.range (cs.length + 1)).find? fun k => sameT (tableT (wrs (cs.take k))) t with
  | some k => (k : Int)
  | none => -1
theorem idxT_some {cs : List Cm} {t : List Pr} {k : Nat} (hk : k ≤ cs.length) (h : sameT (tableT (wrs (cs.take k))) t = true) (hlo : ∀ j, j < k → sameT (tableT (wrs (cs.take j))) t = false) : idxT cs t = k := by
  unfold idxT
  have : (List.range (cs.length + 1)).find? (fun k => sameT (tableT (wrs (cs.take k))) t) = some k := by
    rw [List.find?_eq_some_iff_getElem]
    refine ⟨h, k, by simp; omega, by simp, fun j hj => ?_⟩
    simp [hlo j hj]
  rw [this]
theorem idxT_none {cs : List Cm} {t : List Pr} (hlo : ∀ j, j ≤ cs.length → sameT (tableT (wrs (cs.take j))) t = false) : idxT cs t = -1 := by
  unfold idxT
  have : (List.range (cs.length + 1)).find? (fun k => sameT (tableT (wrs (cs.take k))) t) = none := by
    rw [List.find?_eq_none]
    intro k hk
    simp at hk
    simp [hlo k (by omega)]
  rw [this]

set_option maxHeartbeats 2000000 in
theorem idx_any (A : Option Addr) (n c : Nat) (cs : List Cm) (D : Option Addr) (m d : Nat) (ps : List Pr) (w : World) (hf : Few cs) (hm : m ≤ 1000000) (ht : Cb w w.heap.size A n cs) (hp : Tb w w.heap.size D m ps) :
    Calls Try.prog 9 #[.slice A n c, .slice D m d] w fun e w' => e = .returned (.int .i64 (idxT cs ps)) ∧ Below w.heap.size w w' := by
  have hl := ht.1
  have hn : n ≤ 40 := by have := hf.1; omega
  have HL := Lib.hid hl; clear hl
  have h00 : Tb w w.heap.size none 0 [] := ⟨rfl, fun h => by omega⟩
  cases hs0 : sameT [] ps
  · go_enter Try.func9, Try.ntmps9
    go_wp2_with (go_at_call 17; refine (modsame_any _ _ _ _ _ _ [] ps _ (by omega) hm h00 hp).mono ?_; rintro e w1 ⟨rfl, hb0⟩)
    go_loopw [5, 15] (fun v i wr => ∃ k q : Nat, k ≤ n ∧ i = .int .i64 k ∧ wr.ownsRow w.heap.size 40 2 v q (flat (tableT (wrs (cs.take k)))) ∧ Below w.heap.size w wr ∧ (∀ j, j ≤ k → sameT (tableT (wrs (cs.take j))) ps = false)) (fun _ i _ => n - (intOf i).toNat)
    case atStart =>
      refine ⟨0, 0, by omega, rfl, World.ownsRow_nil _ _ _ _, hb0, fun j hj => ?_⟩
      obtain rfl : j = 0 := by omega
      exact hs0
    case round =>
      obtain ⟨k, q, hk, rfl, hown, hb, hlo⟩ := hrel
      have HO1 := Lib.hid hown; clear hown
      have HLO := Lib.hid hlo; clear hlo
      by_cases hlt : k < n
      · obtain ⟨b, o, rfl, hbw, hc⟩ := (ht.below hb).2 (by omega)
        obtain ⟨⟨tl, lsn, node, xn, act, lev, told, lost, XA, xm, xc, xws⟩, hx⟩ : ∃ x, cs[k]? = some x := ⟨_, List.getElem?_eq_getElem (by rw [HL.out]; omega)⟩
        obtain ⟨c0, c1, c2, c3, c4, c5, c6, c7, c8, hw⟩ := hc _ _ hx
        have hxl : xws.length ≤ 20 := hf.2 _ (List.mem_of_getElem? hx)
        simp only at c0 c1 c2 c3 c4 c5 c6 c7 c8 hw
        have hwl := hw.1
        have hm2 : xm ≤ 20 := by omega
        have HW := Lib.hid hwl
        have hst := wrs_take hx
        simp only at hst
        have HST := Lib.hid hst
        have htl : (tableT (wrs (cs.take k))).length ≤ 800 := by
          have := length_tableT (cs.take k) (fun y hy => hf.2 y (List.mem_of_mem_take hy))
          have h2 : (cs.take k).length ≤ 40 := by rw [List.length_take, HL.out]; omega
          omega
        have HTL := Lib.hid htl
        clear hst hc hx hxl hwl htl
        go_wp2_with fail
        obtain ⟨wo, rfl⟩ : ∃ wo : World, wo = wr := ⟨_, rfl⟩
        go_loopw [5, 23] (fun v i wr => ∃ j r : Nat, j ≤ xm ∧ i = .int .i64 j ∧ wr.ownsRow w.heap.size 40 2 v r (flat (stepsT (tableT (wrs (cs.take k))) (xws.take j))) ∧ Below w.heap.size wo wr) (fun _ i _ => xm - (intOf i).toNat)
        case atStart => exact ⟨0, q, by omega, rfl, by simpa [stepsT] using HO1.out.alloc _, (Below.refl _ _).alloc hb.size _⟩
        case round =>
          obtain ⟨j, r, hj, rfl, hown, hb2⟩ := hrel
          have hq := own_len hown
          have hql := length_stepsT (xws.take j) (tableT (wrs (cs.take k)))
          have h5 := HTL.out
          have h6 := HW.out
          rw [hq, List.length_take] at hql
          have hq9 : r ≤ 999999 := by omega
          clear hq hql h5 h6
          have HO2 := Lib.hid hown; clear hown
          by_cases hlt2 : j < xm
          · obtain ⟨b', o', rfl, hbw', hc⟩ := (hw.below hb2).2 (by omega)
            obtain ⟨⟨key, y, g⟩, hp2⟩ : ∃ p, xws[j]? = some p := ⟨_, List.getElem?_eq_getElem (by rw [HW.out]; omega)⟩
            obtain ⟨d0, d1, d2⟩ := hc _ _ hp2
            simp only at d0 d1 d2
            have hst := stepsT_take (ps := tableT (wrs (cs.take k))) hp2
            have HS2 := Lib.hid hst
            clear hst hc hp2
            go_wp2_with (go_at_call 18; refine (write_any w.heap.size r _ _ _ _ _ _ hq9 (by have := hb2.size; have := hb.size; simp; omega) (srt_stepsT (srt_tableT _) _) (HO2.out.alloc _)).mono ?_; rintro e w2 ⟨v', q', rfl, hown2, hb3⟩)
            rw [HS2.out] at hown2
            go_roundw
            case rel => exact ⟨j + 1, q', by omega, by go_num, hown2, (hb2.alloc (by have := hb2.size; have := hb.size; omega) _).trans hb3⟩
            case measure => simp [intOf]; omega
          · obtain rfl : j = xm := by omega
            have htk : xws.take j = xws := List.take_of_length_le (by rw [HW.out]; omega)
            rw [htk, ← HST.out] at HO2
            obtain ⟨A3, c3, rfl, ht3⟩ := own_tb HO2.out
            have hps : Tb wr wr.heap.size D m ps := (hp.below (hb.trans hb2)).more (by have := hb2.size; have := hb.size; omega)
            cases hs : sameT (tableT (wrs (cs.take (k + 1)))) ps
            · have HS := Lib.hid hs
              go_wp2_with (go_at_call 17; refine (modsame_any _ _ _ _ _ _ _ ps _ (by omega) hm ht3 hps).mono ?_; rintro e w4 ⟨rfl, hb4⟩)
              go_roundw
              case rel =>
                refine ⟨k + 1, r, by omega, by go_num, own_below HO2.out hb4, (hb.trans hb2).trans (hb4.mono (by have := hb2.size; have := hb.size; omega)), fun z hz => ?_⟩
                by_cases hzk : z = k + 1
                · subst hzk; exact HS.out
                · exact HLO.out z (by omega)
              case measure => simp [intOf]; omega
            · have hid := idxT_some (cs := cs) (t := ps) (k := k + 1) (by rw [HL.out]; omega) hs (fun z hz => HLO.out z (by omega))
              have HI := Lib.hid hid; clear hid
              go_wp2_with (go_at_call 17; refine (modsame_any _ _ _ _ _ _ _ ps _ (by omega) hm ht3 hps).mono ?_; rintro e w4 ⟨rfl, hb4⟩)
              go_ret
              exact ⟨ret_int (by rw [HI.out]; omega), (hb.trans hb2).trans (hb4.mono (by have := hb2.size; have := hb.size; omega))⟩
      · obtain rfl : k = n := by omega
        have hid := idxT_none (cs := cs) (t := ps) (fun z hz => HLO.out z (by rw [HL.out] at hz; omega))
        have HI := Lib.hid hid; clear hid
        go_wp2
        go_ret
        exact ⟨ret_int HI.out.symm, hb⟩
  · have hid := idxT_some (cs := cs) (t := ps) (k := 0) (by omega) hs0 (fun z hz => by omega)
    have HI := Lib.hid hid; clear hid
    go_enter Try.func9, Try.ntmps9
    go_wp2_with (go_at_call 17; refine (modsame_any _ _ _ _ _ _ [] ps _ (by omega) hm h00 hp).mono ?_; rintro e w1 ⟨rfl, hb0⟩)
    go_ret
    exact ⟨ret_int (by rw [HI.out]; rfl), hb0⟩

end Go.Proofs.Ytjgkiecepjlheaa
