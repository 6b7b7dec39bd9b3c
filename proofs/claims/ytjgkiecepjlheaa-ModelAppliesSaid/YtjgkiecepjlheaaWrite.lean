/- The walks of slices.Delete, slices.Insert (one value) and model.write over rows of pairs. -/
import Derived.Test.YtjgkiecepjlheaaSame
import Derived.Test.YtjgkiecepjlheaaRow
namespace Go.Proofs.Ytjgkiecepjlheaa
open Go.RowKit

def flat (ps : List Pr) : List Value := ps.flatMap fun p => [.string p.1, .string p.2]
theorem flat_nil : flat [] = [] := rfl
theorem flat_cons (p : Pr) (ps : List Pr) : flat (p :: ps) = .string p.1 :: .string p.2 :: flat ps := rfl
theorem flat_append (a b : List Pr) : flat (a ++ b) = flat a ++ flat b := by simp [flat]
theorem flat_length (ps : List Pr) : (flat ps).length = ps.length * 2 := by
  induction ps with
  | nil => rfl
  | cons p ps ih => rw [flat_cons]; simp [ih]; omega
theorem flat_take (ps : List Pr) : ∀ n, flat (ps.take n) = (flat ps).take (n * 2) := by
  induction ps with
  | nil => intro n; simp [flat]
  | cons p ps ih =>
    intro n
    cases n with
    | zero => simp [flat]
    | succ n => rw [List.take_succ_cons, flat_cons, flat_cons, ih, show (n + 1) * 2 = n * 2 + 1 + 1 by omega, List.take_succ_cons, List.take_succ_cons]
theorem flat_drop (ps : List Pr) : ∀ n, flat (ps.drop n) = (flat ps).drop (n * 2) := by
  induction ps with
  | nil => intro n; simp [flat]
  | cons p ps ih =>
    intro n
    cases n with
    | zero => simp
    | succ n => rw [List.drop_succ_cons, flat_cons, ih, show (n + 1) * 2 = n * 2 + 1 + 1 by omega, List.drop_succ_cons, List.drop_succ_cons]
theorem flat_one (ps : List Pr) : ∀ u ∈ flat ps, u.oneCell' = true := by
  intro u hu
  obtain ⟨p, _, h⟩ := List.mem_flatMap.1 hu
  simp at h
  rcases h with rfl | rfl <;> rfl
theorem flat_get {ps : List Pr} {k : Nat} {p : Pr} (h : ps[k]? = some p) : (flat ps)[k * 2]? = some (.string p.1) ∧ (flat ps)[k * 2 + 1]? = some (.string p.2) := by
  have e : ps.drop k = p :: ps.drop (k + 1) := by
    obtain ⟨hl, rfl⟩ := List.getElem?_eq_some_iff.1 h
    exact List.drop_eq_getElem_cons hl
  have f : (flat ps).drop (k * 2) = .string p.1 :: .string p.2 :: flat (ps.drop (k + 1)) := by rw [← flat_drop, e, flat_cons]
  constructor
  · have : ((flat ps).drop (k * 2))[0]? = some (.string p.1) := by rw [f]; rfl
    simpa using this
  · have : ((flat ps).drop (k * 2))[1]? = some (.string p.2) := by rw [f]; rfl
    simpa using this

theorem info40 : (Try.prog.info? 40).map (fun i => (i.zero, i.size, i.bytes)) = some (some (.agg #[.string ⟨#[]⟩, .string ⟨#[]⟩]), 2, 32) := by kernel_rfl

/-- what a row of the call's own is, laid open -/
theorem own_open {w : World} {base g n cap : Nat} {ps : List Pr} (h : w.ownsRow base 40 2 (.slice (some ⟨g, 0, none⟩) n cap) n (flat ps)) :
    base ≤ g ∧ ps.length = n ∧ n ≤ cap ∧ cap ≤ maxLen ∧ ∃ R : List Value, Blk w g 40 (flat ps ++ R) ∧ n * 2 + R.length = cap * 2 := by
  obtain ⟨hl, h⟩ := h
  rw [flat_length] at hl
  rcases h with ⟨h, _⟩ | ⟨g', cap', cur, hv, hb, hg, hn, hm, hs, ht⟩
  · cases h
  · cases hv
    refine ⟨hb, by omega, hn, hm, cur.toList.drop (n * 2), ?_, by simp; omega⟩
    unfold Blk
    rw [hg, ← ht, List.take_append_drop]
theorem own_shut {w : World} {base g n cap : Nat} {ps : List Pr} {L : List Value} (hb : base ≤ g) (hl : ps.length = n) (hn : n ≤ cap) (hm : cap ≤ maxLen) (hg : Blk w g 40 L) (hL : L.length = cap * 2) (ht : L.take (n * 2) = flat ps) :
    w.ownsRow base 40 2 (.slice (some ⟨g, 0, none⟩) n cap) n (flat ps) :=
  ⟨by rw [flat_length, hl], .inr ⟨g, cap, L.toArray, rfl, hb, hg, hn, hm, by simpa using hL, by simpa using ht⟩⟩

def empties : List Value := [.string ⟨#[]⟩, .string ⟨#[]⟩]
theorem empties_length : empties.length = 2 := rfl

set_option maxHeartbeats 1000000 in
theorem del_any (base g n cap i : Nat) (ps : List Pr) (w : World) (hi : i < n) (hcap : n ≤ 1000000) (hown : w.ownsRow base 40 2 (.slice (some ⟨g, 0, none⟩) n cap) n (flat ps)) :
    Calls Try.prog 22 #[.slice (some ⟨g, 0, none⟩) n cap, .int .i64 i, .int .i64 ((i : Int) + 1)] w fun e w' =>
      e = .returned (.slice (some ⟨g, 0, none⟩) (n - 1) cap) ∧ w'.ownsRow base 40 2 (.slice (some ⟨g, 0, none⟩) (n - 1) cap) (n - 1) (flat (ps.take i ++ ps.drop (i + 1))) ∧ w.grownBy w' (some g) := by
  obtain ⟨hbase, hl, hnc, hcm, R, hB, hR⟩ := own_open hown
  obtain ⟨i0, hi0, hz0, hz1, hz2⟩ := info_parts info40
  have hcm' : cap ≤ 9223372036854775807 := by unfold maxLen at hcm; omega
  have hLl : (flat ps ++ R).length = cap * 2 := by rw [List.length_append, flat_length]; omega
  -- the source of the append
  obtain ⟨A, hA, hnews⟩ : ∃ A : Addr, (if cap = i + 1 then some (⟨g, 0, none⟩ : Addr) else some ⟨g, (i + 1) * 2, none⟩) = some A ∧ (∀ j u, (flat (ps.drop (i + 1)))[j]? = some u → w.drew.cell? (A.add j) = some u) := by
    by_cases h : cap = i + 1
    · refine ⟨⟨g, 0, none⟩, by simp [h], fun j u hu => ?_⟩
      have h0 : ps.drop (i + 1) = [] := List.drop_eq_nil_of_le (by omega)
      rw [h0] at hu
      simp [flat] at hu
    · refine ⟨⟨g, (i + 1) * 2, none⟩, by simp [h], fun j u hu => ?_⟩
      rw [Addr.add_lit, hB.drew.cell]
      have hj := (List.getElem?_eq_some_iff.1 hu).1
      rw [flat_length, List.length_drop] at hj
      rw [flat_drop, List.getElem?_drop] at hu
      rw [List.getElem?_append_left (by rw [flat_length]; omega)]
      exact hu
  have hrun := run_append_blk (P := Try.prog) w.drew Try.underlying23 hi0 hz1 hB.drew i cap A (n - (i + 1)) (cap - (i + 1)) (flat (ps.drop (i + 1))) (by rw [flat_length, List.length_drop, hl]) hnews (flat_one _) (by omega) (by rw [flat_length, hLl, List.length_drop]; omega)
  obtain ⟨L1, hL1⟩ : ∃ L1, L1 = (flat ps ++ R).take (i * 2) ++ flat (ps.drop (i + 1)) ++ (flat ps ++ R).drop (i * 2 + (flat (ps.drop (i + 1))).length) := ⟨_, rfl⟩
  rw [← hL1] at hrun
  have hLl1 : L1.length = cap * 2 := by rw [hL1]; simp only [List.length_append, List.length_take, List.length_drop, flat_length]; omega
  have hB1 := hB.drew.set L1
  have hrun2 := run_clear_blk (P := Try.prog) (w.drew.setRow g L1.toArray) Try.underlying23 (z := empties) Try.zeroValue40 (by decide) hB1 ((n - 1) * 2) 1 (cap - (n - 1)) rfl (by rw [hLl1]; show _ + 2 ≤ _; omega)
  obtain ⟨L2, hL2⟩ : ∃ L2, L2 = L1.take ((n - 1) * 2) ++ empties ++ L1.drop ((n - 1) * 2 + empties.length) := ⟨_, rfl⟩
  rw [← hL2] at hrun2
  have H1 := Lib.hid hrun; clear hrun
  have H2 := Lib.hid hrun2; clear hrun2
  have HA := Lib.hid hnews; clear hnews
  have e1 : Hid (L1 = (flat ps ++ R).take (i * 2) ++ flat (ps.drop (i + 1)) ++ (flat ps ++ R).drop (i * 2 + (flat (ps.drop (i + 1))).length)) := hL1
  have e2 : Hid (L2 = L1.take ((n - 1) * 2) ++ empties ++ L1.drop ((n - 1) * 2 + empties.length)) := hL2
  have e3 : Hid ((flat ps ++ R).length = cap * 2) := hLl
  have e4 : Hid (L1.length = cap * 2) := hLl1
  have e5 : Hid (Blk (w.drew.setRow g L1.toArray) g 40 L1) := hB1
  have e6 : Hid (Blk w g 40 (flat ps ++ R)) := hB
  have e7 : Hid (ps.length = n) := hl
  have e8 : Hid (w.ownsRow base 40 2 (.slice (some ⟨g, 0, none⟩) n cap) n (flat ps)) := hown
  have q1 : ((i : Int) == (i : Int) + 1) = false := by simp; omega
  have q2 : i + (n - (i + 1)) = n - 1 := by omega
  have q3 : ¬ (cap = n - 1) := by omega
  have q8 : n - (n - 1) = 1 := by omega
  have q4 : i ≤ cap := by omega
  have q5 : (0 : Int) ≤ (i : Int) + 1 := by omega
  have q6 : (i : Int) + 1 ≤ (n : Int) := by omega
  have q7 : ((i : Int) + 1).toNat = i + 1 := by omega
  clear hL1 hL2 hLl hLl1 hB1 hB hl hz0 hz1 hz2 hi0 hR hown
  go_enter Try.func22, Try.ntmps22
  go_wp2_with fail
  go_region_law (refine step_two rfl .append (.tmp 22) (.tmp 25) #[23, 23] rfl (.slice (some ⟨g, 0, none⟩) i cap) (.slice (some A) (n - (i + 1)) (cap - (i + 1))) (by simp [Act.eval, Act.put]) (by simp [Act.eval, Act.put]) (H1.out _) ?_)
  go_wp2_with (refine wpList_one rfl .clear (.tmp 31) #[23] rfl (.slice (some ⟨g, (n - 1) * 2, none⟩) 1 (cap - (n - 1))) rfl (H2.out _) ?_)
  go_ret
  have hlen : (ps.take i ++ ps.drop (i + 1)).length = n - 1 := by have := e7.out; simp only [List.length_append, List.length_take, List.length_drop]; omega
  have hf1 : (flat (ps.take i)).length = i * 2 := by have := e7.out; rw [flat_length, List.length_take]; omega
  have hf2 : (flat (ps.drop (i + 1))).length = (n - 1 - i) * 2 := by have := e7.out; rw [flat_length, List.length_drop]; omega
  have ht1 : (flat ps ++ R).take (i * 2) = flat (ps.take i) := by
    have := e7.out
    rw [List.take_append_of_le_length (by rw [flat_length]; omega), flat_take]
  have hL2 : L2.take ((n - 1) * 2) = flat (ps.take i ++ ps.drop (i + 1)) := by
    rw [e2.out, List.append_assoc, List.take_left' (by rw [List.length_take, e4.out]; omega), e1.out, ht1, flat_append, List.append_assoc]
    rw [← List.append_assoc, List.take_left' (by rw [List.length_append, hf1, hf2]; omega)]
  have hL2l : L2.length = cap * 2 := by
    rw [e2.out]; simp only [List.length_append, List.length_take, List.length_drop, e4.out, empties_length]; omega
  refine ⟨rfl, own_shut hbase hlen (by omega) hcm (e5.out.set L2) hL2l hL2, ?_⟩
  exact grownBy_trans (grownBy_trans (grownBy_drew w _) (grownBy_setRow _ g _)) (grownBy_setRow _ g _)

/-- one pair behind a row of the call's own -/
theorem append_pair (w : World) (base n : Nat) (v : Value) (ps : List Pr) (p : Pr) (hown : w.ownsRow base 40 2 v n (flat ps)) (hn : n ≤ 1000000) (hbase : base ≤ w.heap.size) (ad : Addr) (c : Nat)
    (hnews : ∀ j u, (flat [p])[j]? = some u → w.cell? (ad.add j) = some u) (ty : TypeId) :
    ∃ v' w', (∀ cs, (builtin .append #[23, 23] ty cs #[v, .slice (some ad) 1 c]).run Try.prog w = .ok (.value v') w') ∧ w'.ownsRow base 40 2 v' (n + 1) (flat (ps ++ [p])) ∧ w.grownBy w' v.ownBlock := by
  obtain ⟨i0, hi0, hz0, hz1, hz2⟩ := info_parts info40
  obtain ⟨v', w', hr, h1, h2, _⟩ := run_append_own (P := Try.prog) w base 23 ty 40 i0 _ 2 32 Try.underlying23 hi0 hz0 hz1 hz2 rfl (by omega) v n (flat ps) hown ad 1 c (flat [p]) rfl hnews (flat_one _) (by unfold maxLen; omega) (by omega) hbase
  exact ⟨v', w', fun _ => by simp only [builtin, Sem.run_bind, hr, Result.andThen_ok, Sem.run_pure], by rw [flat_append]; exact h1, h2⟩

set_option maxHeartbeats 1000000 in
theorem ins_end (base n gv : Nat) (v : Value) (ps : List Pr) (p : Pr) (w : World) (hn : n ≤ 1000000) (hbase : base ≤ w.heap.size) (hown : w.ownsRow base 40 2 v n (flat ps)) (hv : Blk w gv 40 (flat [p])) :
    Calls Try.prog 23 #[v, .int .i64 n, .slice (some ⟨gv, 0, none⟩) 1 1] w fun e w' =>
      ∃ v', e = .returned v' ∧ w'.ownsRow base 40 2 v' (n + 1) (flat (ps ++ [p])) ∧ w.grownBy w' v.ownBlock := by
  have hnews : ∀ j u, (flat [p])[j]? = some u → w.cell? ((⟨gv, 0, none⟩ : Addr).add j) = some u := fun j u hu => by rw [Addr.add_lit, hv.cell]; simpa using hu
  obtain ⟨v', w', hrun, h1, h2⟩ := append_pair w base n v ps p hown hn hbase ⟨gv, 0, none⟩ 1 hnews 23
  have H1 := Lib.hid hrun; clear hrun
  have H2 := Lib.hid h1; clear h1
  have HN := Lib.hid hnews; clear hnews
  have HV := Lib.hid hv; clear hv
  obtain ⟨hl, hown⟩ := hown
  rcases hown with ⟨rfl, rfl⟩ | ⟨g, cap, cur, rfl, hb, hg, hnc, hcm, hsz, htk⟩
  · clear hl
    go_enter Try.func23, Try.ntmps23
    go_wp2_with (refine wpList_two rfl .append (.tmp 23) (.tmp 24) #[23, 23] rfl (.slice none 0 0) (.slice (some ⟨gv, 0, none⟩) 1 1) rfl rfl H1.out ?_)
    go_ret
    exact ⟨v', rfl, H2.out, h2⟩
  · have hcm' : cap ≤ 9223372036854775807 := by unfold maxLen at hcm; omega
    have q1 : ((n : Int) == (n : Int)) = true := by simp
    have HG := Lib.hid hg; clear hg
    have HT := Lib.hid htk; clear htk
    clear hl hsz
    go_enter Try.func23, Try.ntmps23
    go_wp2_with (refine wpList_two rfl .append (.tmp 23) (.tmp 24) #[23, 23] rfl (.slice (some ⟨g, 0, none⟩) n cap) (.slice (some ⟨gv, 0, none⟩) 1 1) rfl rfl H1.out ?_)
    all_goals (go_ret; exact ⟨v', rfl, H2.out, h2⟩)

end Go.Proofs.Ytjgkiecepjlheaa
