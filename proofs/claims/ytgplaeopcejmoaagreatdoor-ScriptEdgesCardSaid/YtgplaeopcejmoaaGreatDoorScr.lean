/- Scripts, in plain words: a script's text; what a text is read as; each is the other's back. -/
import Derived.Test.YtgplaeopcejmoaaGreatDoorRound
import Derived.Test.YtgplaeopcejmoaaGreatDoorCmay
namespace Go.Proofs.YtgplaeopcejmoaaGreatDoor
open Go.RowKit Go.Shelf

structure Scr where
  set : Sup
  acts : List Ar
def supZ : Sup := ⟨0, 0, 0, 0, 0⟩
def scrZ : Scr := ⟨supZ, []⟩
def setNm (i : Nat) : ByteArray := match i with
  | 0 => ⟨#[110, 111, 100, 101, 115]⟩
  | 1 => ⟨#[99, 97, 112, 97, 99, 105, 116, 121]⟩
  | 2 => ⟨#[102, 114, 97, 109, 101, 115]⟩
  | 3 => ⟨#[113, 117, 111, 114, 117, 109]⟩
  | _ => ⟨#[100, 101, 108, 97, 121]⟩
def setNs (s : Sup) (i : Nat) : Int := match i with
  | 0 => s.nodes
  | 1 => s.capacity
  | 2 => s.frames
  | 3 => s.quorum
  | _ => s.delay
def setPut (s : Sup) (i : Nat) (n : Int) : Sup := match i with
  | 0 => { s with nodes := n }
  | 1 => { s with capacity := n }
  | 2 => { s with frames := n }
  | 3 => { s with quorum := n }
  | _ => { s with delay := n }
def setLine (s : Sup) (i : Nat) : ByteArray := joinS [setNm i, ito (setNs s i)]
def scrLines (s : Scr) : List ByteArray := (List.range 5).map (setLine s.set) ++ s.acts.map actText
/-- texts' lines, each with a byte 10 behind it -/
def lnB (l : List ByteArray) : Bs := (l.map fun x => bs x ++ [10]).flatten
def scrText (s : Scr) : ByteArray := txt (lnB (scrLines s))
def mayScr (s : Scr) : Bool := maySet s.set && s.acts.all mayAct
def IntOk (n : Int) : Prop := -9223372036854775808 ≤ n ∧ n ≤ 9223372036854775807
structure ScrOk (s : Scr) : Prop where
  set : ∀ i, IntOk (setNs s.set i)
  acts : ∀ a ∈ s.acts, ActOk a

/-! ### lines -/
theorem lnB_nil : lnB [] = [] := rfl
theorem lnB_cons (x : ByteArray) (l : List ByteArray) : lnB (x :: l) = bs x ++ 10 :: lnB l := by
  unfold lnB
  rw [List.map_cons, List.flatten_cons, List.append_assoc]; rfl
theorem lnB_app (a b : List ByteArray) : lnB (a ++ b) = lnB a ++ lnB b := by
  unfold lnB
  rw [List.map_append, List.flatten_append]
theorem lnB_snoc (a : List ByteArray) (x : ByteArray) : lnB (a ++ [x]) = lnB a ++ (bs x ++ [10]) := by
  rw [lnB_app, lnB_cons, lnB_nil]
theorem cuts_ln : ∀ l : List ByteArray, (∀ x ∈ l, lackB 10 (bs x)) → cutsL 10 (lnB l) = l.map bs ++ [[]]
  | [], _ => rfl
  | x :: l, h => by
    rw [lnB_cons, cutsL_at 10 _ _ (h x (by simp)), cuts_ln l (fun y hy => h y (by simp [hy]))]; rfl
theorem joinS_two (x y : ByteArray) : bs (joinS [x, y]) = bs x ++ 32 :: bs y := by
  rw [bs_joinS]; simp [gluL]
theorem setNm_lack (i : Nat) : lackB 32 (bs (setNm i)) ∧ lackB 10 (bs (setNm i)) := by
  have h : ∀ c ∈ bs (setNm i), c ≠ 32 ∧ c ≠ 10 := by
    unfold setNm
    split <;> decide
  exact ⟨fun c hc => (h c hc).1, fun c hc => (h c hc).2⟩
theorem bs_ito' (n : Int) : bs (ito n) = Lib.itoa n := by simp
theorem setLine_split (s : Sup) (i : Nat) : splitT 32 (setLine s i) = [setNm i, ito (setNs s i)] := by
  unfold setLine
  refine split_join fun x hx => ?_
  simp only [List.mem_cons, List.not_mem_nil, or_false] at hx
  rcases hx with rfl | rfl
  · exact (setNm_lack i).1
  · rw [bs_ito']; exact (lack_itoa _).1
theorem setLine_lack (s : Sup) (i : Nat) : lackB 10 (bs (setLine s i)) := by
  unfold setLine
  rw [joinS_two]
  intro c hc
  rcases List.mem_append.1 hc with hc | hc
  · exact (setNm_lack i).2 c hc
  · rcases List.mem_cons.1 hc with rfl | hc
    · decide
    · rw [bs_ito'] at hc; exact (lack_itoa _).2 c hc

/-! ### reading -/
/-- a setup's line, read -/
def setNum (i : Nat) (x : ByteArray) : Option Int := match splitT 32 x with
  | [nm, v] => if (bs nm == bs (setNm i)) && !(intV v).2 then some (intV v).1 else none
  | _ => none
theorem setNum_line (s : Sup) (i : Nat) (h : IntOk (setNs s i)) : setNum i (setLine s i) = some (setNs s i) := by
  unfold setNum
  rw [setLine_split]
  simp only
  rw [intV_ito h]
  simp
theorem bs_inj {a b : ByteArray} (h : bs a = bs b) : a = b := by rw [← txt_bs a, h, txt_bs]
theorem setNum_back {i : Nat} {x : ByteArray} {n : Int} (h : setNum i x = some n) : x = joinS [setNm i, ito n] ∧ IntOk n := by
  unfold setNum at h
  split at h
  · rename_i nm v hs
    split at h
    · rename_i hc
      simp only [Bool.and_eq_true, Bool.not_eq_true', beq_iff_eq] at hc
      obtain ⟨h1, h2⟩ := hc
      cases h
      obtain ⟨h3, h4⟩ := intV_back h2
      refine ⟨?_, h4⟩
      rw [← bs_inj h1, ← h3, ← hs, join_split]
    · cases h
  · cases h
theorem setNum_of {i : Nat} {x : ByteArray} {n : Int} (h : IntOk n) (hx : x = joinS [setNm i, ito n]) : setNum i x = some n := by
  subst hx
  have hs : splitT 32 (joinS [setNm i, ito n]) = [setNm i, ito n] := split_join fun x hx => by
    simp only [List.mem_cons, List.not_mem_nil, or_false] at hx
    rcases hx with rfl | rfl
    · exact (setNm_lack i).1
    · rw [bs_ito']; exact (lack_itoa _).1
  unfold setNum
  rw [hs]
  simp only
  rw [intV_ito h]
  simp
/-- one line more -/
def stepP (n : Nat) (s : Scr) (x : ByteArray) : Option Scr :=
  if n < 5 then match setNum n x with
    | none => none
    | some v => if n < 4 || maySet (setPut s.set n v) then some ⟨setPut s.set n v, s.acts⟩ else none
  else if s.acts.length = 65536 then none else match actOfT x with
    | none => none
    | some a => some ⟨s.set, s.acts ++ [a]⟩
/-- the lines that are left -/
def parseB : Nat → Scr → List Bs → Except Nat Scr
  | n, _, [] => .error n
  | n, s, [r] => if r = [] ∧ 5 ≤ n then .ok s else .error n
  | n, s, x :: y :: l => match stepP n s (txt x) with
    | none => .error n
    | some s' => parseB (n + 1) s' (y :: l)
def parseT (t : ByteArray) : Except Nat Scr := parseB 0 scrZ (cutsL 10 (bs t))
theorem parseB_step {n : Nat} {s s' : Scr} {x : Bs} {l : List Bs} (hl : l ≠ []) (h : stepP n s (txt x) = some s') : parseB n s (x :: l) = parseB (n + 1) s' l := by
  cases l with
  | nil => exact absurd rfl hl
  | cons y l => rw [parseB, h]
theorem parseB_bad {n : Nat} {s : Scr} {x : Bs} {l : List Bs} (hl : l ≠ []) (h : stepP n s (txt x) = none) : parseB n s (x :: l) = .error n := by
  cases l with
  | nil => exact absurd rfl hl
  | cons y l => rw [parseB, h]
theorem txt_inj {a b : Bs} (h : txt a = txt b) : a = b := by rw [← bs_txt a, h, bs_txt]

theorem parse_acts : ∀ (l : List Ar) (n : Nat) (set : Sup) (d : List Ar), 5 ≤ n → (∀ a ∈ l, mayAct a = true ∧ ActOk a) → d.length + l.length ≤ 65536 →
    parseB n ⟨set, d⟩ ((l.map actText).map bs ++ [[]]) = .ok ⟨set, d ++ l⟩
  | [], n, set, d, hn, _, _ => by
    rw [List.map_nil, List.map_nil, List.nil_append, parseB, if_pos ⟨rfl, hn⟩, List.append_nil]
  | a :: l, n, set, d, hn, h, hl => by
    have ha := h a (by simp)
    rw [List.map_cons, List.map_cons, List.cons_append, parseB_step (s' := ⟨set, d ++ [a]⟩) (by simp) ?_]
    · rw [parse_acts l (n + 1) set (d ++ [a]) (by omega) (fun b hb => h b (by simp [hb])) (by simp at hl ⊢; omega), List.append_assoc]; rfl
    · unfold stepP
      rw [if_neg (by omega), if_neg (by simp at hl ⊢; omega), txt_bs, actOfT_text ha.1 ha.2]
theorem step_head {n : Nat} (hn : n < 5) (s : Sup) (d : List Ar) (t : Sup) (h : IntOk (setNs s n)) (hm : n = 4 → maySet (setPut t n (setNs s n)) = true) : stepP n ⟨t, d⟩ (txt (bs (setLine s n))) = some ⟨setPut t n (setNs s n), d⟩ := by
  unfold stepP
  rw [if_pos hn, txt_bs, setNum_line s n h]
  simp only
  rw [if_pos]
  by_cases h4 : n = 4
  · rw [hm h4]; simp
  · have : n < 4 := by omega
    simp [this]
theorem setPut_all (s t : Sup) : setPut (setPut (setPut (setPut (setPut t 0 (setNs s 0)) 1 (setNs s 1)) 2 (setNs s 2)) 3 (setNs s 3)) 4 (setNs s 4) = s := rfl
theorem maySet_ok {s : Sup} (h : maySet s = true) : ∀ i, IntOk (setNs s i) := by
  unfold maySet at h
  have h := of_decide_eq_true h
  intro i
  unfold setNs IntOk
  split <;> omega
theorem scrLines_eq (s : Scr) : scrLines s = setLine s.set 0 :: setLine s.set 1 :: setLine s.set 2 :: setLine s.set 3 :: setLine s.set 4 :: s.acts.map actText := rfl
theorem actText_lack10 {a : Ar} (h : mayAct a = true) : lackB 10 (bs (actText a)) := by
  obtain ⟨m, hm, hw⟩ := mayAct_mask h
  have e : bs (actText a) = gluL 32 ((actW a m (opMask a)).map bs) := by
    rw [actText_eq hm hw]
    unfold actW
    rw [bs_joinS]
  rw [e]
  have hall : ∀ x ∈ actW a m (opMask a), lackB 10 (bs x) := by
    have hr := getI_act hm
    have h8 : hasF m 8 = true → getI namedL a.op.kind = some (opMask a) := fun h8 => (mask_of ((mayA_parts hw).2.2.2.2.2.2 h8)).1
    unfold actW
    intro x hx
    simp only [List.mem_cons, List.mem_append] at hx
    have ho : ∀ (b : Bool) (y z : ByteArray), z ∈ optW b y → z = y := fun b y z hz => by
      unfold optW at hz; split at hz <;> simp at hz; exact hz
    have hi : ∀ n : Int, lackB 10 (bs (ito n)) := fun n => by rw [bs_ito']; exact (lack_itoa n).2
    rcases hx with rfl | hx | hx | hx | hx | hx
    · exact (actName_lack hr.1 hr.2).2
    · rw [ho _ _ _ hx]; exact hi _
    · rw [ho _ _ _ hx]; exact hi _
    · rw [ho _ _ _ hx]; exact hi _
    · unfold optsW at hx
      split at hx
      · rename_i hb
        have hk := h8 hb
        have hr2 := named_range hk
        rw [opWords_opt] at hx
        simp only [List.mem_cons, List.mem_append] at hx
        have hd : ∀ n : Nat, lackB 10 (bs (dec n)) := fun n => by
          have : bs (dec n) = Lib.decDigits n := by simp
          rw [this]; exact (lack_dec n).2
        have hw' : ∀ y : ByteArray, lackB 10 (bs (wtx y)) := fun y => (lack_word (bs y)).2
        rcases hx with rfl | hx | hx | hx | hx | hx | hx
        · exact (opName_lack hr2.1 hr2.2).2
        · rw [ho _ _ _ hx]; exact hd _
        · rw [ho _ _ _ hx]; exact hd _
        · rw [ho _ _ _ hx]; exact hw' _
        · rw [ho _ _ _ hx]; exact hw' _
        · rw [ho _ _ _ hx]; exact hw' _
        · rw [ho _ _ _ hx]; exact hi _
      · cases hx
    · unfold optsW at hx
      split at hx
      · obtain ⟨n, _, rfl⟩ := List.mem_map.1 hx
        exact hi _
      · cases hx
  intro c hc
  have hglu : ∀ (l : List Bs), c ∈ gluL 32 l → c = 32 ∨ ∃ p ∈ l, c ∈ p := by
    intro l hl
    cases l with
    | nil => cases hl
    | cons p q =>
      simp only [gluL, List.mem_append, List.mem_flatten, List.mem_map] at hl
      rcases hl with hl | ⟨r, ⟨x, hx, rfl⟩, hr⟩
      · exact .inr ⟨p, by simp, hl⟩
      · rcases List.mem_cons.1 hr with hr | hr
        · exact .inl hr
        · exact .inr ⟨x, by simp [hx], hr⟩
  rcases hglu _ hc with rfl | ⟨p, hp, hcp⟩
  · decide
  · obtain ⟨x, hx, rfl⟩ := List.mem_map.1 hp
    exact hall x hx c hcp
theorem scrLines_lack {s : Scr} (h : mayScr s = true) : ∀ x ∈ scrLines s, lackB 10 (bs x) := by
  intro x hx
  unfold scrLines at hx
  rcases List.mem_append.1 hx with hx | hx
  · obtain ⟨i, _, rfl⟩ := List.mem_map.1 hx
    exact setLine_lack _ _
  · obtain ⟨a, ha, rfl⟩ := List.mem_map.1 hx
    unfold mayScr at h
    rw [Bool.and_eq_true, List.all_eq_true] at h
    exact actText_lack10 (h.2 a ha)
theorem parse_head {s : Sup} (hm : maySet s = true) {l : List Bs} (hl : l ≠ []) : parseB 0 scrZ (bs (setLine s 0) :: bs (setLine s 1) :: bs (setLine s 2) :: bs (setLine s 3) :: bs (setLine s 4) :: l) = parseB 5 ⟨s, []⟩ l := by
  have ok := maySet_ok hm
  unfold scrZ
  rw [parseB_step (by simp) (step_head (n := 0) (by decide) s [] _ (ok 0) (fun h => absurd h (by decide))), parseB_step (by simp) (step_head (n := 1) (by decide) s [] _ (ok 1) (fun h => absurd h (by decide))),
    parseB_step (by simp) (step_head (n := 2) (by decide) s [] _ (ok 2) (fun h => absurd h (by decide))), parseB_step (by simp) (step_head (n := 3) (by decide) s [] _ (ok 3) (fun h => absurd h (by decide))),
    parseB_step hl (step_head (n := 4) (by decide) s [] _ (ok 4) (fun _ => by rw [setPut_all]; exact hm)), setPut_all]
theorem parse_text {s : Scr} (hm : mayScr s = true) (ok : ScrOk s) (hl : s.acts.length ≤ 65536) : parseT (scrText s) = .ok s := by
  unfold parseT scrText
  rw [bs_txt, cuts_ln _ (scrLines_lack hm), scrLines_eq]
  unfold mayScr at hm
  rw [Bool.and_eq_true, List.all_eq_true] at hm
  simp only [List.map_cons, List.cons_append]
  rw [parse_head hm.1 (by simp), parse_acts s.acts 5 s.set [] (Nat.le_refl _) (fun a ha => ⟨hm.2 a ha, ok.acts a ha⟩) (by simpa using hl)]
  rfl

/-! ### back -/
theorem parseB_ok {n : Nat} {s r : Scr} {l : List Bs} (h : parseB n s l = .ok r) : (l = [[]] ∧ 5 ≤ n ∧ s = r) ∨ ∃ x y l' s', l = x :: y :: l' ∧ stepP n s (txt x) = some s' ∧ parseB (n + 1) s' (y :: l') = .ok r := by
  match l with
  | [] => cases h
  | [x] =>
    rw [parseB] at h
    split at h
    · rename_i hc
      cases h
      exact .inl ⟨by rw [hc.1], hc.2, rfl⟩
    · cases h
  | x :: y :: l' =>
    rw [parseB] at h
    cases hs : stepP n s (txt x) with
    | none => rw [hs] at h; cases h
    | some s' => rw [hs] at h; exact .inr ⟨x, y, l', s', rfl, hs, h⟩
theorem step_set {n : Nat} (hn : n < 5) {s s' : Scr} {x : ByteArray} (h : stepP n s x = some s') : ∃ v, IntOk v ∧ x = joinS [setNm n, ito v] ∧ s' = ⟨setPut s.set n v, s.acts⟩ ∧ (n = 4 → maySet s'.set = true) := by
  unfold stepP at h
  rw [if_pos hn] at h
  cases hv : setNum n x with
  | none => rw [hv] at h; cases h
  | some v =>
    rw [hv] at h
    simp only at h
    split at h
    · rename_i hc
      cases h
      obtain ⟨h1, h2⟩ := setNum_back hv
      refine ⟨v, h2, h1, rfl, fun h4 => ?_⟩
      subst h4
      simpa using hc
    · cases h
theorem step_act {n : Nat} (hn : 5 ≤ n) {s s' : Scr} {x : ByteArray} (h : stepP n s x = some s') : ∃ a, actOfT x = some a ∧ s.acts.length ≠ 65536 ∧ s' = ⟨s.set, s.acts ++ [a]⟩ := by
  unfold stepP at h
  rw [if_neg (by omega)] at h
  split at h
  · cases h
  · rename_i hl
    cases ha : actOfT x with
    | none => rw [ha] at h; cases h
    | some a => rw [ha] at h; cases h; exact ⟨a, rfl, hl, rfl⟩
theorem parse_acts_back : ∀ (l : List Bs) (n : Nat) (s r : Scr), 5 ≤ n → s.acts.length ≤ 65536 → parseB n s l = .ok r →
    ∃ acts, r = ⟨s.set, s.acts ++ acts⟩ ∧ l = (acts.map actText).map bs ++ [[]] ∧ (∀ a ∈ acts, mayAct a = true ∧ ActOk a) ∧ r.acts.length ≤ 65536
  | [], n, s, r, _, _, h => by cases h
  | x :: l, n, s, r, hn, hl, h => by
    rcases parseB_ok h with ⟨h1, _, rfl⟩ | ⟨x', y, l', s', h1, h2, h3⟩
    · exact ⟨[], by simp, by rw [h1]; rfl, (fun a ha => by cases ha), hl⟩
    · obtain ⟨rfl, rfl⟩ := List.cons.inj h1
      obtain ⟨a, ha, hne, rfl⟩ := step_act hn h2
      obtain ⟨acts, e1, e2, e3, e4⟩ := parse_acts_back (y :: l') (n + 1) ⟨s.set, s.acts ++ [a]⟩ r (by omega) (by simp; omega) h3
      obtain ⟨m1, m2, m3⟩ := actText_of ha
      refine ⟨a :: acts, by rw [e1]; simp, ?_, fun b hb => ?_, e4⟩
      · rw [List.map_cons, List.map_cons, List.cons_append, ← e2, m2, bs_txt]
      · rcases List.mem_cons.1 hb with rfl | hb
        · exact ⟨m1, m3⟩
        · exact e3 b hb
theorem parse_back {t : ByteArray} {s : Scr} (h : parseT t = .ok s) : scrText s = t ∧ mayScr s = true ∧ ScrOk s ∧ s.acts.length ≤ 65536 := by
  unfold parseT at h
  have one : ∀ {n : Nat} {u : Scr} {l : List Bs}, n < 5 → parseB n u l = .ok s → ∃ l' v, l = bs (joinS [setNm n, ito v]) :: l' ∧ IntOk v ∧ (n = 4 → maySet (setPut u.set n v) = true) ∧ parseB (n + 1) ⟨setPut u.set n v, u.acts⟩ l' = .ok s := by
    intro n u l hn h
    rcases parseB_ok h with ⟨_, h5, _⟩ | ⟨x, y, l', s', h1, h2, h3⟩
    · omega
    · obtain ⟨v, hv, hx, rfl, hm⟩ := step_set hn h2
      exact ⟨y :: l', v, by rw [h1, ← hx, bs_txt], hv, hm, h3⟩
  obtain ⟨l1, v0, e0, o0, _, h⟩ := one (by decide) h
  obtain ⟨l2, v1, e1, o1, _, h⟩ := one (by decide) h
  obtain ⟨l3, v2, e2, o2, _, h⟩ := one (by decide) h
  obtain ⟨l4, v3, e3, o3, _, h⟩ := one (by decide) h
  obtain ⟨l5, v4, e4, o4, hm, h⟩ := one (by decide) h
  have hm := hm rfl
  obtain ⟨acts, e5, e6, e7, e8⟩ := parse_acts_back l5 5 _ s (Nat.le_refl _) (by simp [scrZ]) h
  subst e5
  refine ⟨?_, ?_, ⟨maySet_ok hm, fun a ha => (e7 a (by simpa [scrZ] using ha)).2⟩, e8⟩
  · have hg := glu_cuts 10 (bs t)
    rw [e0, e1, e2, e3, e4, e6] at hg
    apply bs_inj
    rw [← hg]
    unfold scrText
    rw [bs_txt, scrLines_eq]
    have hln : ∀ (l : List ByteArray) (p : Bs), gluL 10 (p :: (l.map bs ++ [[]])) = p ++ 10 :: lnB l := by
      intro l
      induction l with
      | nil => intro p; simp [gluL, lnB_nil]
      | cons x l ih =>
        intro p
        have := ih (bs x)
        rw [lnB_cons]
        simp only [gluL, List.map_cons, List.cons_append, List.flatten_cons] at this ⊢
        rw [← this]
    simp only [lnB_cons, gluL, List.map_cons, List.flatten_cons, scrZ, List.nil_append] at hln ⊢
    have h4 := hln (acts.map actText) (bs (setLine ⟨v0, v1, v2, v3, v4⟩ 4))
    simp only [List.cons_append]
    unfold setLine at h4 ⊢
    simp only [setNs, setPut, supZ] at h4 ⊢
    rw [h4]
  · unfold mayScr
    rw [Bool.and_eq_true, List.all_eq_true]
    exact ⟨hm, fun a ha => (e7 a (by simpa [scrZ] using ha)).1⟩
end Go.Proofs.YtgplaeopcejmoaaGreatDoor
