/- The walks of slices.Insert (one value) ahead of a row's end: with room, and without. -/
import Derived.Test.YtjgkiecepjlheaaWrite
import Derived.Lib.Overlaps
import Derived.Lib.AppendZerosOnto
namespace Go.Proofs.Ytjgkiecepjlheaa
open Go.RowKit

theorem run_over (w : World) (gv g o lb cb la : Nat) (p : Pr) (L : List Value) (hv : Blk w gv 40 (flat [p])) (hg : Blk w g 40 L) (hL : 0 < L.length) (hne : gv ≠ g) :
    (callFunc 27 #[.slice (some ⟨gv, 0, none⟩) la la, .slice (some ⟨g, o, none⟩) lb cb]).run Try.prog w = .ok (.value (.bool false)) w := by
  have hsa : w.shape? gv = some (40, 2) := by unfold Blk at hv; simp [World.shape?, hv, flat]
  have hsb : w.shape? g = some (40, L.length) := by unfold Blk at hg; simp [World.shape?, hg]
  rw [run_callFunc_extern Try.func27 (by kernel_rfl) (by kernel_rfl) (by kernel_rfl) (e := Extern.SlicesOverlaps.overlaps #[23, 23] #[4]) (by kernel_rfl),
    Lib.run_overlaps_apart w 23 4 40 Try.underlying23 2 Try.sizeOf40 ⟨gv, 0, none⟩ ⟨g, o, none⟩ la la lb cb hne 40 40 2 L.length hsa hsb (by omega) (hv.frozen 0) (hv.frozen 2)]
  rfl

theorem ins_list {ps R : List Value} {i n : Nat} {a b : Value} (hl : ps.length = n * 2) (hi : i < n) (hR : 2 ≤ R.length) :
    ∀ L1 L2 : List Value, L1 = (ps ++ R).take ((i + 1) * 2) ++ ps.drop (i * 2) ++ (ps ++ R).drop ((i + 1) * 2 + (ps.drop (i * 2)).length) → L2 = L1.take (i * 2) ++ [a, b] ++ L1.drop (i * 2 + 2) →
      L1.length = (ps ++ R).length ∧ L2.length = (ps ++ R).length ∧ L2.take ((n + 1) * 2) = ps.take (i * 2) ++ a :: b :: ps.drop (i * 2) := by
  intro L1 L2 h1 h2
  have hd : (ps.drop (i * 2)).length = n * 2 - i * 2 := by rw [List.length_drop, hl]
  have l1 : L1.length = (ps ++ R).length := by rw [h1]; simp only [List.length_append, List.length_take, List.length_drop, hd, hl]; omega
  have l2 : L2.length = (ps ++ R).length := by rw [h2]; simp only [List.length_append, List.length_take, List.length_drop, l1, hl, List.length_cons, List.length_nil]; omega
  refine ⟨l1, l2, ?_⟩
  have e1 : L1.take (i * 2) = ps.take (i * 2) := by
    rw [h1, List.append_assoc, List.take_append_of_le_length (by simp; omega), List.take_take, Nat.min_eq_left (by omega), List.take_append_of_le_length (by omega)]
  have e2 : L1.drop (i * 2 + 2) = ps.drop (i * 2) ++ (ps ++ R).drop ((i + 1) * 2 + (ps.drop (i * 2)).length) := by
    rw [h1, List.append_assoc, List.drop_append_of_le_length (by simp; omega), List.drop_of_length_le (by simp; omega), List.nil_append]
  rw [h2, e1, e2, List.append_assoc]
  rw [List.take_append, List.take_of_length_le (by simp; omega)]
  congr 1
  have hm : (n + 1) * 2 - (ps.take (i * 2)).length = 2 + (n * 2 - i * 2) := by simp; omega
  rw [hm, show ([a, b] : List Value) ++ (ps.drop (i * 2) ++ (ps ++ R).drop ((i + 1) * 2 + (ps.drop (i * 2)).length)) = a :: b :: (ps.drop (i * 2) ++ (ps ++ R).drop ((i + 1) * 2 + (ps.drop (i * 2)).length)) from rfl,
    show 2 + (n * 2 - i * 2) = (n * 2 - i * 2) + 1 + 1 by omega, List.take_succ_cons, List.take_succ_cons, List.take_left' hd]

set_option maxHeartbeats 1000000 in
set_option maxRecDepth 100000 in
theorem ins_room (base g n cap i gv : Nat) (ps : List Pr) (p : Pr) (w : World) (hi : i < n) (hn : n ≤ 1000000) (hroom : n < cap) (hne : gv ≠ g) (hv : Blk w gv 40 (flat [p]))
    (hown : w.ownsRow base 40 2 (.slice (some ⟨g, 0, none⟩) n cap) n (flat ps)) :
    Calls Try.prog 23 #[.slice (some ⟨g, 0, none⟩) n cap, .int .i64 i, .slice (some ⟨gv, 0, none⟩) 1 1] w fun e w' =>
      ∃ v', e = .returned v' ∧ w'.ownsRow base 40 2 v' (n + 1) (flat (ps.take i ++ p :: ps.drop i)) ∧ w.grownBy w' (some g) := by
  obtain ⟨hbase, hl, hnc, hcm, R, hB, hR⟩ := own_open hown
  obtain ⟨i0, hi0, hz0, hz1, hz2⟩ := info_parts info40
  have hcm' : cap ≤ 9223372036854775807 := by unfold maxLen at hcm; omega
  have hfl : (flat ps).length = n * 2 := by rw [flat_length, hl]
  have hLl : (flat ps ++ R).length = cap * 2 := by rw [List.length_append, hfl]; omega
  have hov := fun lb cb => run_over w gv g ((i + 1) * 2) lb cb 1 p _ hv hB (by rw [hLl]; omega) hne
  have hd : ((flat ps).drop (i * 2)).length = (n - i) * 2 := by rw [List.length_drop, hfl]; omega
  have hr1 := run_copy_blk (P := Try.prog) w.drew Try.underlying23 hi0 hz1 hB.drew ((i + 1) * 2) (n - i) (cap - (i + 1)) ⟨g, i * 2, none⟩ (n + 1 - i) (cap - i) ((flat ps).drop (i * 2))
    (by rw [hd]; congr 1; simp only [Nat.min_def]; split <;> omega)
    (fun j u hu => by
      rw [Addr.add_lit, hB.drew.cell]
      rw [List.getElem?_drop] at hu
      have := (List.getElem?_eq_some_iff.1 hu).1
      rw [List.getElem?_append_left (by omega)]
      exact hu)
    (fun u hu => flat_one ps u (List.mem_of_mem_drop hu)) (by rw [hd, hLl]; omega)
  obtain ⟨L1, hL1⟩ : ∃ L1, L1 = (flat ps ++ R).take ((i + 1) * 2) ++ (flat ps).drop (i * 2) ++ (flat ps ++ R).drop ((i + 1) * 2 + ((flat ps).drop (i * 2)).length) := ⟨_, rfl⟩
  rw [← hL1] at hr1
  have hB1 := hB.drew.set L1
  have hv1 : Blk (w.drew.setRow g L1.toArray) gv 40 (flat [p]) := hv.drew.other hne _
  obtain ⟨hl1, hl2, hfin⟩ := ins_list (a := .string p.1) (b := .string p.2) hfl hi (by omega) L1 _ hL1 rfl
  have hr2 := run_copy_blk (P := Try.prog) (w.drew.setRow g L1.toArray) Try.underlying23 hi0 hz1 hB1 (i * 2) (n + 1 - i) (cap - i) ⟨gv, 0, none⟩ 1 1 (flat [p])
    (by simp only [Nat.min_def]; split <;> simp [flat]; omega)
    (fun j u hu => by rw [Addr.add_lit, hv1.cell]; simpa using hu) (flat_one _) (by rw [hl1, hLl]; show _ + 2 ≤ _; omega)
  have hfl1 : (flat [p]).length = 2 := rfl
  have hfl2 : flat [p] = [.string p.1, .string p.2] := rfl
  rw [hfl1, hfl2] at hr2
  obtain ⟨L2, hL2⟩ : ∃ L2, L2 = L1.take (i * 2) ++ [.string p.1, .string p.2] ++ L1.drop (i * 2 + 2) := ⟨_, rfl⟩
  rw [← hL2] at hr2 hfin hl2
  have H1 := Lib.hid hr1; clear hr1
  have H2 := Lib.hid hr2; clear hr2
  have HB1 := Lib.hid hB1; clear hB1
  have HF := Lib.hid hfin; clear hfin
  have HL := Lib.hid hl; clear hl
  have HL2 := Lib.hid hl2; clear hl2
  have HLl := Lib.hid hLl; clear hLl
  have HOV := Lib.hid hov; clear hov
  have q1 : ((i : Int) == (n : Int)) = false := by simp; omega
  have q2 : ¬ ((cap : Int) < (n : Int) + 1) := by omega
  have q3 : (0 : Int) ≤ (n : Int) + 1 := by omega
  have q4 : (n : Int) + 1 ≤ (cap : Int) := by omega
  have q5 : ((n : Int) + 1).toNat = n + 1 := by omega
  have q6 : (0 : Int) ≤ (i : Int) + 1 := by omega
  have q7 : (i : Int) + 1 ≤ (n : Int) + 1 := by omega
  have q8 : ((i : Int) + 1).toNat = i + 1 := by omega
  have q9 : ¬ (cap = i + 1) := by omega
  have q10 : ¬ (cap = i) := by omega
  have q11 : (i : Int) ≤ (n : Int) + 1 := by omega
  have q12 : IntKind.i64.wrap ((i : Int) + 1) = (i : Int) + 1 := by rw [IntKind.wrap_i64]; omega
  clear hL1 hL2 hfl hl1 hd hB hv hv1 hR hown hfl1 hfl2 hi0 hz0 hz1 hz2
  go_enter Try.func23, Try.ntmps23
  go_wp2_with (simp only [HOV.out])
  go_region_law (refine step_two rfl .copy (.tmp 73) (.tmp 76) #[23, 23] rfl (.slice (some ⟨g, (i + 1) * 2, none⟩) (n - i) (cap - (i + 1))) (.slice (some ⟨g, i * 2, none⟩) (n + 1 - i) (cap - i)) (by simp [Act.eval, Act.put]) (by simp [Act.eval, Act.put]) (H1.out _) ?_)
  go_wp2_with (refine wpList_two rfl .copy (.tmp 80) (.tmp 81) #[23, 23] rfl (.slice (some ⟨g, i * 2, none⟩) (n + 1 - i) (cap - i)) (.slice (some ⟨gv, 0, none⟩) 1 1) rfl rfl (H2.out _) ?_)
  go_ret
  refine ⟨_, rfl, ?_, grownBy_trans (grownBy_trans (grownBy_drew w _) (grownBy_setRow _ g _)) (grownBy_setRow _ g _)⟩
  have := HL.out
  refine own_shut hbase (by simp; omega) (by omega) hcm (HB1.out.set L2) (HL2.out.trans HLl.out) ?_
  rw [HF.out, flat_append, flat_cons, flat_take, flat_drop]

theorem grow_list {ps Z1 Z2 : List Value} {i n : Nat} {a b : Value} (hl : ps.length = n * 2) (hi : i < n) (hz1 : Z1.length = (n + 1 - i) * 2) :
    ∀ L1 L2 : List Value, L1 = (ps.take (i * 2) ++ Z1 ++ Z2).take (i * 2) ++ [a, b] ++ (ps.take (i * 2) ++ Z1 ++ Z2).drop (i * 2 + 2) → L2 = L1.take ((i + 1) * 2) ++ ps.drop (i * 2) ++ L1.drop ((i + 1) * 2 + (ps.drop (i * 2)).length) →
      L1.length = (n + 1) * 2 + Z2.length ∧ L2.length = (n + 1) * 2 + Z2.length ∧ L2.take ((n + 1) * 2) = ps.take (i * 2) ++ a :: b :: ps.drop (i * 2) := by
  intro L1 L2 h1 h2
  have ht : (ps.take (i * 2)).length = i * 2 := by rw [List.length_take]; omega
  have hd : (ps.drop (i * 2)).length = n * 2 - i * 2 := by rw [List.length_drop, hl]
  have l0 : (ps.take (i * 2) ++ Z1 ++ Z2).length = (n + 1) * 2 + Z2.length := by simp only [List.length_append, ht, hz1]; omega
  have l1 : L1.length = (n + 1) * 2 + Z2.length := by
    rw [h1, List.length_append, List.length_append, List.length_take, List.length_drop, l0]; simp only [List.length_cons, List.length_nil]; omega
  have l2 : L2.length = (n + 1) * 2 + Z2.length := by
    rw [h2]; simp only [List.length_append, List.length_take, List.length_drop, l1, hl]; omega
  refine ⟨l1, l2, ?_⟩
  have e1 : L1.take ((i + 1) * 2) = ps.take (i * 2) ++ [a, b] := by
    rw [h1, List.append_assoc (ps.take (i * 2)), List.take_left' ht, List.take_left' (by rw [List.length_append, ht]; simp only [List.length_cons, List.length_nil]; omega)]
  rw [h2, e1, List.take_left' (by rw [List.length_append, List.length_append, ht, hd]; simp only [List.length_cons, List.length_nil]; omega)]
  simp

theorem ofNat_arr (L : List Value) (A : Array Value) : (A ++ L.toArray) = (A.toList ++ L).toArray := by simp

set_option maxHeartbeats 1000000 in
set_option maxRecDepth 100000 in
theorem ins_grow (base g n i gv : Nat) (ps : List Pr) (p : Pr) (w : World) (hi : i < n) (hn : n ≤ 1000000) (hbw : base ≤ w.heap.size) (hv : Blk w gv 40 (flat [p]))
    (hown : w.ownsRow base 40 2 (.slice (some ⟨g, 0, none⟩) n n) n (flat ps)) :
    Calls Try.prog 23 #[.slice (some ⟨g, 0, none⟩) n n, .int .i64 i, .slice (some ⟨gv, 0, none⟩) 1 1] w fun e w' =>
      ∃ v', e = .returned v' ∧ w'.ownsRow base 40 2 v' (n + 1) (flat (ps.take i ++ p :: ps.drop i)) ∧ w.grownBy w' (some g) := by
  obtain ⟨hbase, hl, hnc, hcm, R, hB, hR⟩ := own_open hown
  obtain ⟨i0, hi0, hz0, hz1, hz2⟩ := info_parts info40
  have hfl : (flat ps).length = n * 2 := by rw [flat_length, hl]
  have hR0 : R = [] := List.eq_nil_of_length_eq_zero (by omega)
  subst hR0
  rw [List.append_nil] at hB
  have hfit := growslice_fits (need := i + (n + 1 - i)) (old := n) (bytes := 32) (by omega) (by omega)
  have hd : ((flat ps).drop (i * 2)).length = (n - i) * 2 := by rw [List.length_drop, hfl]; omega
  have hzl : (Builtin.zeroCells #[.string ⟨#[]⟩, .string ⟨#[]⟩] (n + 1 - i)).size = (n + 1 - i) * 2 := size_zeroCells _ _
  have hr0 := Lib.run_append_grow_zeros (P := Try.prog) w 23 3 23 40 i0 _ .i64 .i64 Try.underlying23 Try.underlying3 hi0 hz0 (some ⟨g, 0, none⟩) i n ((flat ps).take (i * 2))
    (run_firstCells_some (P := Try.prog) w.drew i0.size i ⟨g, 0, none⟩ i n _ (by rw [hz1, List.length_take]; omega) (fun j u hu => by
      rw [Addr.add_lit, hB.drew.cell]
      rw [List.getElem?_take] at hu
      split at hu
      · simpa using hu
      · cases hu))
    (n + 1 - i) (by omega) (by omega) (by omega) (by omega) (by rw [hz2]; omega) (by rw [hz2]; exact hfit)
  have hn1 : i + (n + 1 - i) = n + 1 := by omega
  rw [hn1] at hr0
  have hC := grownCap_ge w (n + 1) n 40
  have hCm : grownCap w (n + 1) n 40 ≤ maxLen := grownCap_le_maxLen w (n + 1) n 40 (by unfold maxLen; omega)
  generalize grownCap w (n + 1) n 40 = C at hr0 hC hCm
  -- the new row
  obtain ⟨Z1, hZ1⟩ : ∃ Z1, Z1 = (Builtin.zeroCells (Value.agg #[.string ⟨#[]⟩, .string ⟨#[]⟩]).cells (n + 1 - i)).toList := ⟨_, rfl⟩
  obtain ⟨Z2, hZ2⟩ : ∃ Z2, Z2 = (Builtin.zeroCells (Value.agg #[.string ⟨#[]⟩, .string ⟨#[]⟩]).cells (C - (n + 1))).toList := ⟨_, rfl⟩
  have hZ1l : Z1.length = (n + 1 - i) * 2 := by rw [hZ1, Array.length_toList, size_zeroCells]; rfl
  have hZ2l : Z2.length = (C - (n + 1)) * 2 := by rw [hZ2, Array.length_toList, size_zeroCells]; rfl
  have hcur : (((flat ps).take (i * 2)).toArray ++ Builtin.zeroCells (Value.agg #[.string ⟨#[]⟩, .string ⟨#[]⟩]).cells (n + 1 - i) ++ Builtin.zeroCells (Value.agg #[.string ⟨#[]⟩, .string ⟨#[]⟩]).cells (C - (n + 1))) =
      ((flat ps).take (i * 2) ++ Z1 ++ Z2).toArray := by rw [hZ1, hZ2]; apply Array.ext'; simp
  rw [hcur] at hr0
  have hg2 : Blk (w.drew.alloc (.cells ((flat ps).take (i * 2) ++ Z1 ++ Z2).toArray 40)) w.heap.size 40 ((flat ps).take (i * 2) ++ Z1 ++ Z2) := Blk.new w.drew 40 _
  have hBg : Blk (w.drew.alloc (.cells ((flat ps).take (i * 2) ++ Z1 ++ Z2).toArray 40)) g 40 (flat ps) := hB.drew.alloc _
  have hvg : Blk (w.drew.alloc (.cells ((flat ps).take (i * 2) ++ Z1 ++ Z2).toArray 40)) gv 40 (flat [p]) := hv.drew.alloc _
  have hgr1 : w.grownBy (w.drew.alloc (.cells ((flat ps).take (i * 2) ++ Z1 ++ Z2).toArray 40)) (some g) := grownBy_trans (grownBy_drew w _) (World.grownBy_alloc _ _ _)
  have hglt := hB.lt
  have hgvlt := hv.lt
  generalize w.drew.alloc (.cells ((flat ps).take (i * 2) ++ Z1 ++ Z2).toArray 40) = W1 at hr0 hg2 hBg hvg hgr1
  -- one pair into it
  have hfl2 : flat [p] = [.string p.1, .string p.2] := rfl
  have hr1 := run_copy_blk (P := Try.prog) W1 Try.underlying23 hi0 hz1 hg2 (i * 2) (n + 1 - i) (C - i) ⟨gv, 0, none⟩ 1 1 (flat [p])
    (by show 2 = min 1 (n + 1 - i) * 2; omega)
    (fun j u hu => by rw [Addr.add_lit, hvg.cell]; simpa using hu) (flat_one _) (by rw [hfl2]; simp only [List.length_append, List.length_take, List.length_cons, List.length_nil]; omega)
  rw [hfl2] at hr1
  obtain ⟨L1, hL1⟩ : ∃ L1, L1 = ((flat ps).take (i * 2) ++ Z1 ++ Z2).take (i * 2) ++ [.string p.1, .string p.2] ++ ((flat ps).take (i * 2) ++ Z1 ++ Z2).drop (i * 2 + 2) := ⟨_, rfl⟩
  rw [show ([Value.string p.1, Value.string p.2] : List Value).length = 2 from rfl, ← hL1] at hr1
  have hg3 := hg2.set L1
  have hBg3 : Blk (W1.setRow w.heap.size L1.toArray) g 40 (flat ps) := hBg.other (by omega) _
  have hgr2 : w.grownBy (W1.setRow w.heap.size L1.toArray) (some g) := grownBy_new hgr1 (grownBy_setRow _ _ _) (Nat.le_refl _)
  generalize W1.setRow w.heap.size L1.toArray = W2 at hr1 hg3 hBg3 hgr2
  obtain ⟨hl1, hl2, hfin⟩ := grow_list (Z2 := Z2) (a := .string p.1) (b := .string p.2) hfl hi hZ1l L1 _ hL1 rfl
  -- the rest behind it
  have hr2 := run_copy_blk (P := Try.prog) W2.drew Try.underlying23 hi0 hz1 hg3.drew ((i + 1) * 2) (n - i) (C - (i + 1)) ⟨g, i * 2, none⟩ (n - i) (n - i) ((flat ps).drop (i * 2))
    (by rw [hd]; show _ = min (n - i) (n - i) * 2; omega)
    (fun j u hu => by
      rw [Addr.add_lit, hBg3.drew.cell]
      rw [List.getElem?_drop] at hu
      exact hu)
    (fun u hu => flat_one ps u (List.mem_of_mem_drop hu)) (by rw [hd, hl1]; omega)
  obtain ⟨L2, hL2⟩ : ∃ L2, L2 = L1.take ((i + 1) * 2) ++ (flat ps).drop (i * 2) ++ L1.drop ((i + 1) * 2 + ((flat ps).drop (i * 2)).length) := ⟨_, rfl⟩
  rw [← hL2] at hr2 hfin hl2
  have hg4 := hg3.drew.set L2
  have hgr3 : w.grownBy (W2.drew.setRow w.heap.size L2.toArray) (some g) := grownBy_new (grownBy_trans hgr2 (grownBy_drew _ _)) (grownBy_setRow _ _ _) (Nat.le_refl _)
  generalize W2.drew.setRow w.heap.size L2.toArray = W3 at hr2 hg4 hgr3
  rw [show ((n + 1 - i : Nat) : Int) = (n : Int) + 1 - (i : Int) by omega] at hr0
  have hr0' : ∀ cs, (builtin .append #[23, 3] 23 cs #[.slice (some ⟨g, 0, none⟩) i n, .int .i64 ((n : Int) + 1 - (i : Int))]).run Try.prog w = .ok (.value (.slice (some ⟨w.heap.size, 0, none⟩) (n + 1) C)) W1 := fun _ => by
    simp only [builtin, Sem.run_bind, hr0, Result.andThen_ok, Sem.run_pure]
  have H0 := Lib.hid hr0'; clear hr0 hr0'
  have H1 := Lib.hid hr1; clear hr1
  have H2 := Lib.hid hr2; clear hr2
  have HF := Lib.hid hfin; clear hfin
  have HL := Lib.hid hl; clear hl
  have HL2 := Lib.hid hl2; clear hl2
  have HZ2 := Lib.hid hZ2l; clear hZ2l
  have HG4 := Lib.hid hg4; clear hg4
  have HG := Lib.hid hgr3; clear hgr3
  have q1 : ((i : Int) == (n : Int)) = false := by simp; omega
  have q2 : (n : Int) < (n : Int) + 1 := by omega
  have q3 : ¬ (C = i) := by omega
  have q4 : ¬ (n = i) := by omega
  have q5 : ¬ (C = i + 1) := by omega
  have q6 : (0 : Int) ≤ (i : Int) + 1 := by omega
  have q7 : (i : Int) + 1 ≤ (n : Int) + 1 := by omega
  have q8 : ((i : Int) + 1).toNat = i + 1 := by omega
  have q11 : (i : Int) ≤ (n : Int) + 1 := by omega
  have q12 : IntKind.i64.wrap ((i : Int) + 1) = (i : Int) + 1 := by rw [IntKind.wrap_i64]; omega
  have q14 : i ≤ n := by omega
  have q13 : C ≤ 9223372036854775807 := by unfold maxLen at hCm; omega
  clear hL1 hL2 hfl hl1 hd hB hv hR hown hfl2 hi0 hz0 hz1 hz2 hZ1 hZ2 hZ1l hcur hg2 hBg hvg hgr1 hg3 hBg3 hgr2 hn1 hzl hfit hnc
  go_enter Try.func23, Try.ntmps23
  go_wp2_with (first
    | (refine wpList_two rfl .append (.tmp 34) (.tmp 39) #[23, 3] rfl (.slice (some ⟨g, 0, none⟩) i n) (.int .i64 ((n : Int) + 1 - (i : Int))) rfl rfl H0.out ?_)
    | (refine wpList_two rfl .copy (.tmp 43) (.tmp 44) #[23, 23] rfl (.slice (some ⟨w.heap.size, i * 2, none⟩) (n + 1 - i) (C - i)) (.slice (some ⟨gv, 0, none⟩) 1 1) rfl rfl (H1.out _) ?_))
  go_region_law (refine step_two rfl .copy (.tmp 50) (.tmp 53) #[23, 23] rfl (.slice (some ⟨w.heap.size, (i + 1) * 2, none⟩) (n - i) (C - (i + 1))) (.slice (some ⟨g, i * 2, none⟩) (n - i) (n - i)) (by simp [Act.eval, Act.put]) (by simp [Act.eval, Act.put]) (H2.out _) ?_)
  go_wp2_with fail
  go_ret
  have := HL.out
  have := HZ2.out
  refine ⟨_, rfl, own_shut hbw (by simp; omega) (by omega) hCm HG4.out (by rw [HL2.out, HZ2.out]; omega) ?_, HG.out⟩
  rw [HF.out, flat_append, flat_cons, flat_take, flat_drop]

/-- slices.Insert, one pair, anywhere -/
theorem ins_any (base n i gv : Nat) (v : Value) (ps : List Pr) (p : Pr) (w : World) (hi : i ≤ n) (hn : n ≤ 1000000) (hbw : base ≤ w.heap.size) (hv : Blk w gv 40 (flat [p])) (hne : v.ownBlock ≠ some gv)
    (hown : w.ownsRow base 40 2 v n (flat ps)) :
    Calls Try.prog 23 #[v, .int .i64 i, .slice (some ⟨gv, 0, none⟩) 1 1] w fun e w' =>
      ∃ v', e = .returned v' ∧ w'.ownsRow base 40 2 v' (n + 1) (flat (ps.take i ++ p :: ps.drop i)) ∧ w.grownBy w' v.ownBlock := by
  have hl : ps.length = n := by have := hown.1; rw [flat_length] at this; omega
  by_cases h : i = n
  · subst h
    have := ins_end base i gv v ps p w hn hbw hown hv
    rw [List.take_of_length_le (by omega), List.drop_of_length_le (by omega)]
    exact this
  · have hown' := hown
    rcases hown.2 with ⟨rfl, rfl⟩ | ⟨g, cap, cur, rfl, hb, hg, hnc, hcm, hsz, htk⟩
    · omega
    · have hgne : gv ≠ g := fun e => hne (by rw [e]; rfl)
      rcases Nat.lt_or_ge n cap with hc | hc
      · exact ins_room base g n cap i gv ps p w (by omega) hn hc hgne hv hown'
      · obtain rfl : cap = n := by omega
        exact ins_grow base g cap i gv ps p w (by omega) hn hbw hv hown'

end Go.Proofs.Ytjgkiecepjlheaa
