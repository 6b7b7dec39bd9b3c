/- Closed facts behind ScriptEdges: which lines are wrong. -/
import Derived.Test.YtgplaeopcejmoaaGreatDoorWeavet
import Derived.Test.YtgplaeopcejmoaaGreatDoorRaofw
namespace Go.Proofs.YtgplaeopcejmoaaGreatDoor
open Go.RowKit Go.Shelf

theorem ito_4 : Lib.itoa 4 = [52] := by unfold Lib.itoa; rw [if_neg (by decide), Lib.decDigits]; rfl
theorem ito_6 : Lib.itoa 6 = [54] := by unfold Lib.itoa; rw [if_neg (by decide), Lib.decDigits]; rfl
theorem ito_900 : Lib.itoa 900 = [57, 48, 48] := by unfold Lib.itoa; rw [if_neg (by decide), Lib.decDigits, Lib.decDigits, Lib.decDigits]; rfl
def headS : Sup := ⟨2, 900, 4, 1, 0⟩
def sixS : Sup := ⟨6, 9, 4, 0, 0⟩
def headScr : Scr := ⟨headS, []⟩
theorem headMay : maySet headS = true := by decide
theorem headScrMay : mayScr headScr = true := mayScr_mk headMay (fun a ha => by cases ha)
theorem headScrOk : ScrOk headScr := ⟨maySet_ok headMay, fun a ha => by cases ha⟩
def headL : List ByteArray := [⟨#[110, 111, 100, 101, 115, 32, 50]⟩, ⟨#[99, 97, 112, 97, 99, 105, 116, 121, 32, 57, 48, 48]⟩, ⟨#[102, 114, 97, 109, 101, 115, 32, 52]⟩, ⟨#[113, 117, 111, 114, 117, 109, 32, 49]⟩, ⟨#[100, 101, 108, 97, 121, 32, 48]⟩]
def oddL : List ByteArray := [⟨#[110, 111, 100, 101, 115, 32, 48, 50]⟩, ⟨#[99, 97, 112, 97, 99, 105, 116, 121]⟩, ⟨#[102, 114, 97, 109, 101, 115, 32, 52, 120]⟩, ⟨#[113, 117, 111, 114, 117, 109, 32, 32, 49]⟩, ⟨#[100, 101, 108, 97, 121, 115, 32, 48]⟩]
def sixL : List ByteArray := [⟨#[110, 111, 100, 101, 115, 32, 54]⟩, ⟨#[99, 97, 112, 97, 99, 105, 116, 121, 32, 57]⟩, ⟨#[102, 114, 97, 109, 101, 115, 32, 52]⟩, ⟨#[113, 117, 111, 114, 117, 109, 32, 48]⟩, ⟨#[100, 101, 108, 97, 121, 32, 48]⟩]
theorem head_line0 : setLine headS 0 = ⟨#[110, 111, 100, 101, 115, 32, 50]⟩ := by
  apply bs_inj
  unfold setLine
  rw [joinS_two, bs_ito']
  show bs (setNm 0) ++ 32 :: Lib.itoa 2 = _
  rw [ito_2]; rfl
theorem head_line1 : setLine headS 1 = ⟨#[99, 97, 112, 97, 99, 105, 116, 121, 32, 57, 48, 48]⟩ := by
  apply bs_inj
  unfold setLine
  rw [joinS_two, bs_ito']
  show bs (setNm 1) ++ 32 :: Lib.itoa 900 = _
  rw [ito_900]; rfl
theorem head_line2 : setLine headS 2 = ⟨#[102, 114, 97, 109, 101, 115, 32, 52]⟩ := by
  apply bs_inj
  unfold setLine
  rw [joinS_two, bs_ito']
  show bs (setNm 2) ++ 32 :: Lib.itoa 4 = _
  rw [ito_4]; rfl
theorem head_line3 : setLine headS 3 = ⟨#[113, 117, 111, 114, 117, 109, 32, 49]⟩ := by
  apply bs_inj
  unfold setLine
  rw [joinS_two, bs_ito']
  show bs (setNm 3) ++ 32 :: Lib.itoa 1 = _
  rw [ito_1]; rfl
theorem head_line4 : setLine headS 4 = ⟨#[100, 101, 108, 97, 121, 32, 48]⟩ := by
  apply bs_inj
  unfold setLine
  rw [joinS_two, bs_ito']
  show bs (setNm 4) ++ 32 :: Lib.itoa 0 = _
  rw [ito_0]; rfl
theorem head_lines : (List.range 5).map (setLine headS) = headL := by
  show [setLine headS 0, setLine headS 1, setLine headS 2, setLine headS 3, setLine headS 4] = _
  rw [head_line0, head_line1, head_line2, head_line3, head_line4]; rfl
theorem six_line0 : setLine sixS 0 = ⟨#[110, 111, 100, 101, 115, 32, 54]⟩ := by
  apply bs_inj
  unfold setLine
  rw [joinS_two, bs_ito']
  show bs (setNm 0) ++ 32 :: Lib.itoa 6 = _
  rw [ito_6]; rfl
theorem six_line1 : setLine sixS 1 = ⟨#[99, 97, 112, 97, 99, 105, 116, 121, 32, 57]⟩ := by
  apply bs_inj
  unfold setLine
  rw [joinS_two, bs_ito']
  show bs (setNm 1) ++ 32 :: Lib.itoa 9 = _
  rw [ito_9]; rfl
theorem six_line2 : setLine sixS 2 = ⟨#[102, 114, 97, 109, 101, 115, 32, 52]⟩ := by
  apply bs_inj
  unfold setLine
  rw [joinS_two, bs_ito']
  show bs (setNm 2) ++ 32 :: Lib.itoa 4 = _
  rw [ito_4]; rfl
theorem six_line3 : setLine sixS 3 = ⟨#[113, 117, 111, 114, 117, 109, 32, 48]⟩ := by
  apply bs_inj
  unfold setLine
  rw [joinS_two, bs_ito']
  show bs (setNm 3) ++ 32 :: Lib.itoa 0 = _
  rw [ito_0]; rfl
theorem six_line4 : setLine sixS 4 = ⟨#[100, 101, 108, 97, 121, 32, 48]⟩ := by
  apply bs_inj
  unfold setLine
  rw [joinS_two, bs_ito']
  show bs (setNm 4) ++ 32 :: Lib.itoa 0 = _
  rw [ito_0]; rfl
theorem six_lines : (List.range 5).map (setLine sixS) = sixL := by
  show [setLine sixS 0, setLine sixS 1, setLine sixS 2, setLine sixS 3, setLine sixS 4] = _
  rw [six_line0, six_line1, six_line2, six_line3, six_line4]; rfl
theorem headScr_lines : scrLines headScr = headL := by
  unfold scrLines
  rw [show headScr.set = headS from rfl, head_lines]; rfl
theorem odd_int : intV ⟨#[48, 50]⟩ = (2, true) := by
  unfold intV
  rw [show Lib.atoiAll (⟨#[48, 50]⟩ : ByteArray).data.toList = .ok 2 from rfl]
  show ((2 : Int), !(Lib.itoa 2 == (⟨#[48, 50]⟩ : ByteArray).toList)) = (2, true)
  rw [ito_2, toList_bs]
  rfl
theorem odd_0 : setNum 0 ⟨#[110, 111, 100, 101, 115, 32, 48, 50]⟩ = none := by
  unfold setNum
  rw [show splitT 32 ⟨#[110, 111, 100, 101, 115, 32, 48, 50]⟩ = [⟨#[110, 111, 100, 101, 115]⟩, ⟨#[48, 50]⟩] from rfl]
  simp only
  rw [odd_int]; rfl
theorem odd_1 : setNum 1 ⟨#[99, 97, 112, 97, 99, 105, 116, 121]⟩ = none := by rfl
theorem odd_bad : (intV ⟨#[52, 120]⟩).2 = true := by
  unfold intV
  rfl
theorem odd_2 : setNum 2 ⟨#[102, 114, 97, 109, 101, 115, 32, 52, 120]⟩ = none := by
  unfold setNum
  rw [show splitT 32 ⟨#[102, 114, 97, 109, 101, 115, 32, 52, 120]⟩ = [⟨#[102, 114, 97, 109, 101, 115]⟩, ⟨#[52, 120]⟩] from rfl]
  simp only
  rw [odd_bad]; rfl
theorem odd_3 : setNum 3 ⟨#[113, 117, 111, 114, 117, 109, 32, 32, 49]⟩ = none := by rfl
theorem odd_4 : setNum 4 ⟨#[100, 101, 108, 97, 121, 115, 32, 48]⟩ = none := by rfl
theorem far_1 : setNum 0 ⟨#[99, 97, 112, 97, 99, 105, 116, 121, 32, 57, 48, 48]⟩ = none := by rfl
theorem far_2 : setNum 0 ⟨#[102, 114, 97, 109, 101, 115, 32, 52]⟩ = none := by rfl
theorem far_3 : setNum 0 ⟨#[113, 117, 111, 114, 117, 109, 32, 49]⟩ = none := by rfl
theorem far_4 : setNum 0 ⟨#[100, 101, 108, 97, 121, 32, 48]⟩ = none := by rfl
theorem headL_lack : ∀ x ∈ headL, lackB 10 (bs x) := by
  have h : headL.all (fun x => (bs x).all (fun c => c != 10)) = true := by decide
  intro x hx c hc
  have := List.all_eq_true.1 (List.all_eq_true.1 h x hx) c hc
  simpa using this
theorem oddL_lack : ∀ x ∈ oddL, lackB 10 (bs x) := by
  have h : oddL.all (fun x => (bs x).all (fun c => c != 10)) = true := by decide
  intro x hx c hc
  have := List.all_eq_true.1 (List.all_eq_true.1 h x hx) c hc
  simpa using this
theorem sixL_lack : ∀ x ∈ sixL, lackB 10 (bs x) := by
  have h : sixL.all (fun x => (bs x).all (fun c => c != 10)) = true := by decide
  intro x hx c hc
  have := List.all_eq_true.1 (List.all_eq_true.1 h x hx) c hc
  simpa using this
/-- the head's first lines, read -/
theorem parse_pre {s : Sup} (ok : ∀ i, IntOk (setNs s i)) : ∀ (k : Nat), k ≤ 4 → ∃ u, ∀ l : List Bs, l ≠ [] → parseB 0 scrZ (((List.range k).map (setLine s)).map bs ++ l) = parseB k ⟨u, []⟩ l := by
  intro k hk
  match k, hk with
  | 0, _ => exact ⟨supZ, fun l _ => rfl⟩
  | 1, _ => exact ⟨_, fun l hl => by
      show parseB 0 scrZ (bs (setLine s 0) :: l) = _
      unfold scrZ
      rw [parseB_step hl (step_head (n := 0) (by decide) s [] _ (ok 0) (fun h => absurd h (by decide)))]⟩
  | 2, _ => exact ⟨_, fun l hl => by
      show parseB 0 scrZ (bs (setLine s 0) :: bs (setLine s 1) :: l) = _
      unfold scrZ
      rw [parseB_step (by simp) (step_head (n := 0) (by decide) s [] _ (ok 0) (fun h => absurd h (by decide))), parseB_step hl (step_head (n := 1) (by decide) s [] _ (ok 1) (fun h => absurd h (by decide)))]⟩
  | 3, _ => exact ⟨_, fun l hl => by
      show parseB 0 scrZ (bs (setLine s 0) :: bs (setLine s 1) :: bs (setLine s 2) :: l) = _
      unfold scrZ
      rw [parseB_step (by simp) (step_head (n := 0) (by decide) s [] _ (ok 0) (fun h => absurd h (by decide))), parseB_step (by simp) (step_head (n := 1) (by decide) s [] _ (ok 1) (fun h => absurd h (by decide))), parseB_step hl (step_head (n := 2) (by decide) s [] _ (ok 2) (fun h => absurd h (by decide)))]⟩
  | 4, _ => exact ⟨_, fun l hl => by
      show parseB 0 scrZ (bs (setLine s 0) :: bs (setLine s 1) :: bs (setLine s 2) :: bs (setLine s 3) :: l) = _
      unfold scrZ
      rw [parseB_step (by simp) (step_head (n := 0) (by decide) s [] _ (ok 0) (fun h => absurd h (by decide))), parseB_step (by simp) (step_head (n := 1) (by decide) s [] _ (ok 1) (fun h => absurd h (by decide))), parseB_step (by simp) (step_head (n := 2) (by decide) s [] _ (ok 2) (fun h => absurd h (by decide))), parseB_step hl (step_head (n := 3) (by decide) s [] _ (ok 3) (fun h => absurd h (by decide)))]⟩
theorem stepP_none {k : Nat} (hk : k < 5) {s : Scr} {x : ByteArray} (h : setNum k x = none) : stepP k s x = none := by
  unfold stepP
  rw [if_pos hk, h]
theorem parse_bad_head {k : Nat} (hk : k ≤ 4) {x : ByteArray} {r : List ByteArray} (hx : setNum k x = none) (hlx : lackB 10 (bs x)) (hlr : ∀ y ∈ r, lackB 10 (bs y)) : parseT (txt (lnB (headL.take k ++ x :: r))) = .error k := by
  unfold parseT
  have hl : ∀ y ∈ headL.take k ++ x :: r, lackB 10 (bs y) := fun y hy => by
    rcases List.mem_append.1 hy with hy | hy
    · exact headL_lack y (List.mem_of_mem_take hy)
    · rcases List.mem_cons.1 hy with rfl | hy
      · exact hlx
      · exact hlr y hy
  rw [cuts_lines hl, List.map_append, List.append_assoc]
  have e : (headL.take k).map bs = ((List.range k).map (setLine headS)).map bs := by
    rw [← head_lines, ← List.map_take, List.take_range, Nat.min_eq_left (by omega)]
  obtain ⟨u, hu⟩ := parse_pre (maySet_ok headMay) k hk
  rw [e, hu _ (by simp), List.map_cons, List.cons_append, parseB_bad (by simp) (by rw [txt_bs]; exact stepP_none (by omega) hx)]
theorem edge_odd : ∀ i, i < 5 → parseT (txt (lnB (headL.set i ((oddL[i]?).getD ⟨#[]⟩)))) = .error i := by
  intro i hi
  have hlo : ∀ j, ∀ y ∈ headL.drop j, lackB 10 (bs y) := fun j y hy => headL_lack y (List.mem_of_mem_drop hy)
  match i, hi with
  | 0, _ => exact parse_bad_head (k := 0) (by decide) odd_0 (oddL_lack _ (by simp [oddL])) (hlo 1)
  | 1, _ => exact parse_bad_head (k := 1) (by decide) odd_1 (oddL_lack _ (by simp [oddL])) (hlo 2)
  | 2, _ => exact parse_bad_head (k := 2) (by decide) odd_2 (oddL_lack _ (by simp [oddL])) (hlo 3)
  | 3, _ => exact parse_bad_head (k := 3) (by decide) odd_3 (oddL_lack _ (by simp [oddL])) (hlo 4)
  | 4, _ => exact parse_bad_head (k := 4) (by decide) odd_4 (oddL_lack _ (by simp [oddL])) (hlo 5)
theorem edge_take : ∀ i, i < 5 → parseT (txt (lnB (headL.take i))) = .error i := fun i hi => by
  rw [← headScr_lines]; exact wv_wrong headScrMay hi
theorem edge_drop : ∀ i, i < 5 → 0 < i → parseT (txt (lnB (headL.drop i))) = .error 0 := by
  intro i hi h0
  have hlo : ∀ j, ∀ y ∈ headL.drop j, lackB 10 (bs y) := fun j y hy => headL_lack y (List.mem_of_mem_drop hy)
  match i, hi with
  | 1, _ => exact parse_bad_head (k := 0) (by decide) far_1 (headL_lack _ (by simp [headL])) (hlo 2)
  | 2, _ => exact parse_bad_head (k := 0) (by decide) far_2 (headL_lack _ (by simp [headL])) (hlo 3)
  | 3, _ => exact parse_bad_head (k := 0) (by decide) far_3 (headL_lack _ (by simp [headL])) (hlo 4)
  | 4, _ => exact parse_bad_head (k := 0) (by decide) far_4 (headL_lack _ (by simp [headL])) (hlo 5)
theorem edge_whole : parseT (txt (lnB headL)) = .ok headScr := by
  rw [← headScr_lines]; exact parse_text headScrMay headScrOk (by decide)
theorem edge_six : parseT (txt (lnB sixL)) = .error 4 := by
  unfold parseT
  rw [cuts_lines sixL_lack, ← six_lines]
  have ok : ∀ i, IntOk (setNs sixS i) := by
    intro i
    unfold setNs IntOk sixS
    split <;> decide
  show parseB 0 scrZ ([setLine sixS 0, setLine sixS 1, setLine sixS 2, setLine sixS 3, setLine sixS 4].map bs ++ [[]]) = _
  simp only [List.map_cons, List.map_nil, List.cons_append, List.nil_append]
  unfold scrZ
  rw [parseB_step (by simp) (step_head (n := 0) (by decide) sixS [] _ (ok 0) (fun h => absurd h (by decide))), parseB_step (by simp) (step_head (n := 1) (by decide) sixS [] _ (ok 1) (fun h => absurd h (by decide))), parseB_step (by simp) (step_head (n := 2) (by decide) sixS [] _ (ok 2) (fun h => absurd h (by decide))), parseB_step (by simp) (step_head (n := 3) (by decide) sixS [] _ (ok 3) (fun h => absurd h (by decide)))]
  refine parseB_bad (by simp) ?_
  unfold stepP
  rw [if_pos (by decide), txt_bs, setNum_line sixS 4 (ok 4)]
  rfl
def tickB : ByteArray := ⟨#[116, 105, 99, 107, 32, 49]⟩
def tickA : Ar := ⟨5, 1, 0, 0, opZero, []⟩
theorem tickMay : mayAct tickA = true := by decide +kernel
theorem tickText : actText tickA = tickB := by
  unfold actText
  rw [show getI ofActL tickA.kind = some 1 from rfl]
  simp only [Option.getD_some, actWords, addA, addF, hb1_1, hb1_2, hb1_4, hb1_8, hb1_16]
  simp [tickA, actName, ito, ito_1]
  rfl
theorem tickOk : ActOk tickA := by
  constructor <;> simp [tickA, opZero]
theorem head_cuts (r : Bs) : cutsL 10 (bs (txt (lnB headL ++ r))) = headL.map bs ++ cutsL 10 r := by
  rw [bs_txt]
  have : ∀ (l : List ByteArray), (∀ x ∈ l, lackB 10 (bs x)) → cutsL 10 (lnB l ++ r) = l.map bs ++ cutsL 10 r := by
    intro l
    induction l with
    | nil => intro _; rfl
    | cons x l ih =>
      intro h
      rw [lnB_cons, List.append_assoc, List.cons_append, cutsL_at 10 _ _ (h x (by simp)), ih (fun y hy => h y (by simp [hy]))]; rfl
  exact this headL headL_lack
theorem edge_after (r : Bs) : parseT (txt (lnB headL ++ r)) = parseB 5 ⟨headS, []⟩ (cutsL 10 r) := by
  unfold parseT
  rw [head_cuts, ← head_lines]
  exact parse_head headMay (cutsL_ne _ _)
theorem edge_tick : parseT (txt (lnB headL ++ [116, 105, 99, 107, 32, 49])) = .error 5 := by
  rw [edge_after]; rfl
theorem actOfT_kind {s : ByteArray} {a : Ar} (h : actOfT s = some a) : a.kind = kindOfA (hd (lineS s)) := by
  unfold actOfT at h
  split at h
  · injection h with h
    rw [← h]; exact actOfS_kind _
  · cases h
theorem edge_nil : actOfT ⟨#[]⟩ = none := by
  cases h : actOfT ⟨#[]⟩ with
  | none => rfl
  | some a =>
    have h1 := actOfT_range h
    have h2 := actOfT_kind h
    rw [show kindOfA (hd (lineS ⟨#[]⟩)) = 0 from rfl] at h2
    omega
theorem edge_node : actOfT ⟨#[110, 111, 100, 101, 115, 32, 50]⟩ = none := by
  cases h : actOfT ⟨#[110, 111, 100, 101, 115, 32, 50]⟩ with
  | none => rfl
  | some a =>
    have h1 := actOfT_range h
    have h2 := actOfT_kind h
    rw [show kindOfA (hd (lineS ⟨#[110, 111, 100, 101, 115, 32, 50]⟩)) = 0 from rfl] at h2
    omega
theorem edge_blank : parseT (txt (lnB headL ++ [10])) = .error 5 := by
  rw [edge_after]
  rw [show cutsL 10 [10] = [[], []] from rfl]
  refine parseB_bad (by simp) ?_
  unfold stepP
  rw [if_neg (by decide), if_neg (by decide), show txt [] = ⟨#[]⟩ from rfl, edge_nil]
theorem edge_two : parseT (txt (lnB headL ++ [116, 105, 99, 107, 32, 49, 10, 110, 111, 100, 101, 115, 32, 50, 10])) = .error 6 := by
  rw [edge_after]
  rw [show cutsL 10 [116, 105, 99, 107, 32, 49, 10, 110, 111, 100, 101, 115, 32, 50, 10] = [[116, 105, 99, 107, 32, 49], [110, 111, 100, 101, 115, 32, 50], []] from rfl]
  rw [parseB_step (s' := ⟨headS, [tickA]⟩) (by simp) ?_]
  · refine parseB_bad (by simp) ?_
    unfold stepP
    rw [if_neg (by decide), if_neg (by decide), show txt [110, 111, 100, 101, 115, 32, 50] = ⟨#[110, 111, 100, 101, 115, 32, 50]⟩ from rfl, edge_node]
  · unfold stepP
    rw [if_neg (by decide), if_neg (by decide), show txt [116, 105, 99, 107, 32, 49] = actText tickA by rw [tickText]; rfl, actOfT_text tickMay tickOk]
    rfl
end Go.Proofs.YtgplaeopcejmoaaGreatDoor
