/- What is told is read as it was, and what is read is told as it was: operations and acts, in plain words. -/
import Derived.Test.YtgplaeopcejmoaaGreatDoorSplit
import Derived.Test.YtgplaeopcejmoaaGreatDoorTold
import Derived.Test.YtgplaeopcejmoaaGreatDoorActofb
namespace Go.Proofs.YtgplaeopcejmoaaGreatDoor
open Go.RowKit Go.Shelf

theorem lineS_cuts (s : ByteArray) : lineS s = (splitT 32 s, false) := by
  unfold lineS splitT
  have h := Lib.splitB_data ⟨#[32]⟩ 0 (Lib.countB s ⟨#[32]⟩) s
  have h2 : Lib.splitK [32] 0 (Lib.count (bs s) [32]) (bs s) = cutsL 32 (bs s) := splitK_cuts 32 _ _ (Nat.le_refl _)
  have h3 : (Lib.splitB ⟨#[32]⟩ 0 (Lib.countB s ⟨#[32]⟩) s).map (·.data.toList) = cutsL 32 (bs s) := h.trans h2
  have h4 : Lib.splitB ⟨#[32]⟩ 0 (Lib.countB s ⟨#[32]⟩) s = ((Lib.splitB ⟨#[32]⟩ 0 (Lib.countB s ⟨#[32]⟩) s).map (·.data.toList)).map txt := by
    rw [List.map_map]
    exact (List.map_id _).symm
  rw [h4, h3]
theorem bs_joinS (x : ByteArray) (r : List ByteArray) : bs (joinS (x :: r)) = gluL 32 ((x :: r).map bs) := by
  rw [joinS_cons, bs_txt, List.map_cons, gluL, List.map_map]
  rfl
/-- no blank in a word -/
def lackS (l : List ByteArray) : Prop := ∀ x ∈ l, lackB 32 (bs x)
theorem lackS_nil : lackS [] := fun x h => by cases h
theorem lackS_cons {x : ByteArray} {l : List ByteArray} (h : lackB 32 (bs x)) (hl : lackS l) : lackS (x :: l) := fun y hy => by
  rcases List.mem_cons.1 hy with rfl | hy
  · exact h
  · exact hl y hy
theorem lackS_app {a b : List ByteArray} (h : lackS a) (hl : lackS b) : lackS (a ++ b) := fun y hy => by
  rcases List.mem_append.1 hy with hy | hy
  · exact h y hy
  · exact hl y hy
theorem split_join {x : ByteArray} {r : List ByteArray} (h : lackS (x :: r)) : splitT 32 (joinS (x :: r)) = x :: r := by
  unfold splitT
  rw [bs_joinS, List.map_cons, cuts_glu 32 _ _ (h x (by simp)) (fun p hp => by
    obtain ⟨y, hy, rfl⟩ := List.mem_map.1 hp
    exact h y (by simp [hy])), List.map_cons, List.map_map]
  congr 1
  exact List.map_id _
theorem join_split (s : ByteArray) : joinS (splitT 32 s) = s := by
  have h1 : bs (joinS (splitT 32 s)) = bs s := by
    unfold splitT
    cases h : cutsL 32 (bs s) with
    | nil => exact absurd h (cutsL_ne _ _)
    | cons a t =>
      rw [List.map_cons, bs_joinS, List.map_cons, List.map_map, bs_txt]
      have : t.map (bs ∘ txt) = t := List.map_id _
      rw [this, ← h, glu_cuts]
  rw [← txt_bs (joinS (splitT 32 s)), h1, txt_bs]
theorem glu_deep (c : UInt8) (w : Bs) (ws post : List Bs) : ∀ l : List Bs, gluL c (l ++ gluL c (w :: ws) :: post) = gluL c (l ++ (w :: ws) ++ post)
  | [] => by simp [gluL]
  | h :: t => by simp [gluL]
theorem join_deep (l : List ByteArray) (w : ByteArray) (ws post : List ByteArray) : joinS (l ++ joinS (w :: ws) :: post) = joinS (l ++ (w :: ws) ++ post) := by
  have hj : ∀ l : List ByteArray, l ≠ [] → joinS l = txt (gluL 32 (l.map bs)) := by
    intro l hl
    cases l with
    | nil => exact absurd rfl hl
    | cons a r => rw [← bs_joinS, txt_bs]
  rw [hj (l ++ joinS (w :: ws) :: post) (by simp), hj (l ++ (w :: ws) ++ post) (by simp)]
  simp only [List.map_append, List.map_cons]
  rw [bs_joinS, List.map_cons, glu_deep]

/-! ### words' values -/
theorem natV_dec {u : Nat} (h : u < 18446744073709551616) : natV (dec u) = (u, false) := by
  unfold natV
  have e : (dec u).data.toList = Lib.decDigits u := by simp
  have e2 : (dec u).toList = Lib.decDigits u := by rw [toList_bs]
  rw [e, parseB_dec h]
  simp only [e2]
  simp
theorem intV_ito {n : Int} (h : -9223372036854775808 ≤ n ∧ n ≤ 9223372036854775807) : intV (ito n) = (n, false) := by
  unfold intV
  have e : (ito n).data.toList = Lib.itoa n := by simp
  have e2 : (ito n).toList = Lib.itoa n := by rw [toList_bs]
  rw [e, atoi_itoa h.1 h.2]
  simp only [e2]
  simp
theorem textV_wtx (s : ByteArray) : textV (wtx s) = (s, false) := by
  unfold textV
  rw [show bs (wtx s) = wordL (bs s) from rfl, unwordL_word]
  rfl
theorem natV_back {x : ByteArray} (h : (natV x).2 = false) : x = dec (natV x).1 ∧ (natV x).1 < 18446744073709551616 := by
  unfold natV at h ⊢
  cases hp : Lib.parseUintB 64 x.data.toList with
  | ok u =>
    rw [hp] at h
    simp only at h ⊢
    have h' : Lib.decDigits u = x.toList := by simpa using h
    refine ⟨?_, parseUint64_lt hp⟩
    rw [toList_bs] at h'
    rw [← txt_bs x, ← h']
    rfl
  | range => rw [hp] at h; cases h
  | _ => rw [hp] at h; cases h
theorem intV_back {x : ByteArray} (h : (intV x).2 = false) : x = ito (intV x).1 ∧ (-9223372036854775808 ≤ (intV x).1 ∧ (intV x).1 ≤ 9223372036854775807) := by
  unfold intV at h ⊢
  cases hp : Lib.atoiAll x.data.toList with
  | ok u =>
    rw [hp] at h
    simp only at h ⊢
    have h' : Lib.itoa u = x.toList := by simpa using h
    refine ⟨?_, Lib.atoiAll_bounds hp⟩
    rw [toList_bs] at h'
    rw [← txt_bs x, ← h']
    rfl
  | range => rw [hp] at h; cases h
  | _ => rw [hp] at h; cases h
theorem textV_back {x : ByteArray} (h : (textV x).2 = false) : x = wtx (textV x).1 := by
  unfold textV at h ⊢
  cases hp : unwordL (bs x) with
  | some l =>
    simp only
    have := wordL_unword hp
    unfold wtx
    rw [bs_txt, this, txt_bs]
  | none => rw [hp] at h; cases h

/-! ### operations -/
structure OprOk (o : Opr) : Prop where
  n : o.n < 18446744073709551616
  lsn : o.lsn < 18446744073709551616
  level : -9223372036854775808 ≤ o.level ∧ o.level ≤ 9223372036854775807
def optW (b : Bool) (x : ByteArray) : List ByteArray := if b then [x] else []
theorem addF_opt (m f : Int) (x : ByteArray) (l : List ByteArray) : addF m f x l = l ++ optW (hasF m f) x := by
  unfold addF optW; split <;> simp
theorem lack_opt {b : Bool} {x : ByteArray} (h : lackB 32 (bs x)) : lackS (optW b x) := by
  unfold optW; split
  · exact lackS_cons h lackS_nil
  · exact lackS_nil
theorem st1_fwd (m : Int) (q : Opr) (n : Nat) (rest : List ByteArray) (hn : n < 18446744073709551616) (h0 : hasF m 1 = false → n = q.n) : st1 m (q, (optW (hasF m 1) (dec n) ++ rest, false)) = ({ q with n := n }, (rest, false)) := by
  unfold st1 optW
  cases h : hasF m 1 with
  | true => simp [hd, adv, natV_dec hn]
  | false => simp [h0 h]
theorem st2_fwd (m : Int) (q : Opr) (n : Nat) (rest : List ByteArray) (hn : n < 18446744073709551616) (h0 : hasF m 2 = false → n = q.lsn) : st2 m (q, (optW (hasF m 2) (dec n) ++ rest, false)) = ({ q with lsn := n }, (rest, false)) := by
  unfold st2 optW
  cases h : hasF m 2 with
  | true => simp [hd, adv, natV_dec hn]
  | false => simp [h0 h]
theorem st4_fwd (m : Int) (q : Opr) (x : ByteArray) (rest : List ByteArray) (h0 : hasF m 4 = false → x = q.key) : st4 m (q, (optW (hasF m 4) (wtx x) ++ rest, false)) = ({ q with key := x }, (rest, false)) := by
  unfold st4 optW
  cases h : hasF m 4 with
  | true => simp [hd, adv, textV_wtx]
  | false => simp [h0 h]
theorem st8_fwd (m : Int) (q : Opr) (x : ByteArray) (rest : List ByteArray) (h0 : hasF m 8 = false → x = q.til) : st8 m (q, (optW (hasF m 8) (wtx x) ++ rest, false)) = ({ q with til := x }, (rest, false)) := by
  unfold st8 optW
  cases h : hasF m 8 with
  | true => simp [hd, adv, textV_wtx]
  | false => simp [h0 h]
theorem st16_fwd (m : Int) (q : Opr) (x : ByteArray) (rest : List ByteArray) (h0 : hasF m 16 = false → x = q.value) : st16 m (q, (optW (hasF m 16) (wtx x) ++ rest, false)) = ({ q with value := x }, (rest, false)) := by
  unfold st16 optW
  cases h : hasF m 16 with
  | true => simp [hd, adv, textV_wtx]
  | false => simp [h0 h]
theorem st32_fwd (m : Int) (q : Opr) (n : Int) (rest : List ByteArray) (hn : -9223372036854775808 ≤ n ∧ n ≤ 9223372036854775807) (h0 : hasF m 32 = false → n = q.level) : st32 m (q, (optW (hasF m 32) (ito n) ++ rest, false)) = ({ q with level := n }, (rest, false)) := by
  unfold st32 optW
  cases h : hasF m 32 with
  | true => simp [hd, adv, intV_ito hn]
  | false => simp [h0 h]
theorem opWords_opt (o : Opr) (m : Int) : opWords o m = opName o.kind :: (optW (hasF m 1) (dec o.n) ++ (optW (hasF m 2) (dec o.lsn) ++ (optW (hasF m 4) (wtx o.key) ++ (optW (hasF m 8) (wtx o.til) ++ (optW (hasF m 16) (wtx o.value) ++ optW (hasF m 32) (ito o.level)))))) := by
  unfold opWords
  simp only [addF_opt, List.append_assoc, List.cons_append, List.nil_append]
theorem names_kind : ∀ y : Fin 12, allK.find? (fun z => bs (nmAt z) == bs (nmAt y)) = some y := by decide
theorem kindOf_bs (x : ByteArray) : kindOf x = match allK.find? (fun y => bs (nmAt y) == bs x) with
    | some y => 1 + (y.val : Int)
    | none => 0 := by
  unfold kindOf
  simp only [toList_bs]
  rfl
theorem opName_nm {k : Int} (h1 : 1 ≤ k) (h2 : k ≤ 12) : ∃ y : Fin 12, k = 1 + (y.val : Int) ∧ opName k = nmAt y := by
  refine ⟨⟨(k - 1).toNat, by omega⟩, by simp only; omega, ?_⟩
  unfold opName nmAt
  rw [if_pos h1]
theorem opName_at (y : Fin 12) : opName (1 + (y.val : Int)) = nmAt y := by
  unfold opName nmAt
  rw [if_pos (by omega), show (1 + (y.val : Int) - 1).toNat = y.val by omega]
theorem kindOf_opName {k : Int} (h1 : 1 ≤ k) (h2 : k ≤ 12) : kindOf (opName k) = k := by
  obtain ⟨y, rfl, e⟩ := opName_nm h1 h2
  rw [kindOf_bs, e, names_kind y]
theorem opName_kindOf {x : ByteArray} (h : kindOf x ≠ 0) : opName (kindOf x) = x ∧ 1 ≤ kindOf x ∧ kindOf x ≤ 12 := by
  rw [kindOf_bs] at h ⊢
  cases hf : allK.find? (fun y => bs (nmAt y) == bs x) with
  | none => rw [hf] at h; exact absurd rfl h
  | some y =>
    simp only
    have := List.find?_some hf
    have h2 : bs (nmAt y) = bs x := by simpa using this
    refine ⟨?_, by omega, by omega⟩
    rw [opName_at, ← txt_bs (nmAt y), h2, txt_bs]
theorem named_range {k m : Int} (h : getI namedL k = some m) : 1 ≤ k ∧ k ≤ 12 := by
  have := getI_mem h
  simp only [namedL, List.mem_cons, Prod.mk.injEq, List.not_mem_nil, or_false] at this
  omega
theorem nm_lack : ∀ y : Fin 12, (bs (nmAt y)).all (fun c => c != 32 && c != 10) = true := by decide
theorem opName_lack {k : Int} (h1 : 1 ≤ k) (h2 : k ≤ 12) : lackB 32 (bs (opName k)) ∧ lackB 10 (bs (opName k)) := by
  obtain ⟨y, _, e⟩ := opName_nm h1 h2
  rw [e]
  have h := List.all_eq_true.1 (nm_lack y)
  constructor
  all_goals
    intro x hx
    have := h x hx
    simp at this
    first
    | exact this.1
    | exact this.2
theorem opWords_lack {o : Opr} {m : Int} (hm : getI namedL o.kind = some m) : lackS (opWords o m) := by
  rw [opWords_opt]
  have hr := named_range hm
  exact lackS_cons (opName_lack hr.1 hr.2).1 (lackS_app (lack_opt (lack_dec _).1) (lackS_app (lack_opt (lack_dec _).1) (lackS_app (lack_opt (lack_word _).1) (lackS_app (lack_opt (lack_word _).1) (lackS_app (lack_opt (lack_word _).1) (lack_opt (lack_itoa _).1))))))
theorem text_empty {x : ByteArray} (h : x.toList.isEmpty = true) : x = ⟨#[]⟩ := by
  have := bs_empty h
  rw [← txt_bs x, this]; rfl
/-- an operation's words are read as the operation -/
theorem opOfS_words {o : Opr} {m : Int} (hm : getI namedL o.kind = some m) (hw : mayW m o = true) (ok : OprOk o) (rest : List ByteArray) : opOfS (opWords o m ++ rest, false) = (o, (rest, false)) := by
  have hr := named_range hm
  unfold mayW at hw
  simp only [Bool.and_eq_true, Bool.or_eq_true, beq_iff_eq, decide_eq_true_eq] at hw
  obtain ⟨⟨⟨⟨⟨⟨⟨⟨w1, w2⟩, w4⟩, w8⟩, w16⟩, w32⟩, _⟩, _⟩, _⟩ := hw
  rw [opWords_opt]
  simp only [List.cons_append, List.append_assoc]
  unfold opOfS
  have e1 : ∀ t, hd (opName o.kind :: t, false) = opName o.kind := fun t => rfl
  have e2 : ∀ t, adv (opName o.kind :: t, false) false = (t, false) := fun t => rfl
  rw [e1, e2, kindOf_opName hr.1 hr.2, hm]
  unfold opOfM
  simp only [Option.getD_some]
  rw [st1_fwd m _ o.n _ ok.n (fun h => by rw [h] at w1; simpa [opZero] using w1)]
  rw [st2_fwd m _ o.lsn _ ok.lsn (fun h => by rw [h] at w2; simpa [opZero] using w2)]
  rw [st4_fwd m _ o.key _ (fun h => by rw [h] at w4; simpa [opZero] using text_empty (by simpa using w4))]
  rw [st8_fwd m _ o.til _ (fun h => by rw [h] at w8; simpa [opZero] using text_empty (by simpa using w8))]
  rw [st16_fwd m _ o.value _ (fun h => by rw [h] at w16; simpa [opZero] using text_empty (by simpa using w16))]
  rw [st32_fwd m _ o.level _ ok.level (fun h => by rw [h] at w32; simpa [opZero] using w32)]
theorem opText_eq {o : Opr} {m : Int} (hm : getI namedL o.kind = some m) : opText o = joinS (opWords o m) := by
  unfold opText; rw [hm]; rfl
theorem mayOp_mask {o : Opr} (h : mayOp o = true) : ∃ m, getI namedL o.kind = some m ∧ mayW m o = true := by
  cases hm : getI namedL o.kind with
  | none => rw [mayOp_none hm] at h; cases h
  | some m => rw [mayOp_some hm] at h; exact ⟨m, rfl, h⟩
theorem split_opText {o : Opr} {m : Int} (hm : getI namedL o.kind = some m) : splitT 32 (opText o) = opWords o m := by
  rw [opText_eq hm]
  have hl := opWords_lack hm
  rw [opWords_opt] at hl ⊢
  exact split_join hl
/-- what is told is read as it was -/
theorem opOfT_text {o : Opr} (h : mayOp o = true) (ok : OprOk o) : opOfT (opText o) = some o := by
  obtain ⟨m, hm, hw⟩ := mayOp_mask h
  unfold opOfT
  have e := opOfS_words hm hw ok []
  rw [List.append_nil] at e
  rw [lineS_cuts, split_opText hm, e]
  simp [doneS, h]

theorem adv_back {s : LS} {b : Bool} (h : (adv s b).2 = false) : s.2 = false ∧ s.1 = hd s :: (adv s b).1 ∧ b = false := by
  unfold adv at h ⊢
  simp only [Bool.or_eq_false_iff] at h
  obtain ⟨ws, wr⟩ := s
  cases ws with
  | nil => simp at h
  | cons a r => exact ⟨h.1.1, rfl, h.2⟩
theorem st1_back {m : Int} {p : Opr × LS} (h : (st1 m p).2.2 = false) : p.2.2 = false ∧ p.2.1 = optW (hasF m 1) (dec (st1 m p).1.n) ++ (st1 m p).2.1 ∧ st1 m p = ({ p.1 with n := (st1 m p).1.n }, (st1 m p).2) ∧ (p.1.n < 18446744073709551616 → (st1 m p).1.n < 18446744073709551616) := by
  unfold st1 optW at *
  cases hf : hasF m 1 with
  | true =>
    rw [hf] at h
    simp only [if_true] at h ⊢
    obtain ⟨h1, h2, h3⟩ := adv_back h
    have h4 := natV_back h3
    exact ⟨h1, by rw [← h4.1]; exact h2, by first | rfl | trivial, fun _ => h4.2⟩
  | false =>
    rw [hf] at h
    simp only [Bool.false_eq_true, if_false] at h ⊢
    exact ⟨h, (by first | rfl | trivial), (by first | rfl | trivial), fun hh => hh⟩
theorem st2_back {m : Int} {p : Opr × LS} (h : (st2 m p).2.2 = false) : p.2.2 = false ∧ p.2.1 = optW (hasF m 2) (dec (st2 m p).1.lsn) ++ (st2 m p).2.1 ∧ st2 m p = ({ p.1 with lsn := (st2 m p).1.lsn }, (st2 m p).2) ∧ (p.1.lsn < 18446744073709551616 → (st2 m p).1.lsn < 18446744073709551616) := by
  unfold st2 optW at *
  cases hf : hasF m 2 with
  | true =>
    rw [hf] at h
    simp only [if_true] at h ⊢
    obtain ⟨h1, h2, h3⟩ := adv_back h
    have h4 := natV_back h3
    exact ⟨h1, by rw [← h4.1]; exact h2, by first | rfl | trivial, fun _ => h4.2⟩
  | false =>
    rw [hf] at h
    simp only [Bool.false_eq_true, if_false] at h ⊢
    exact ⟨h, (by first | rfl | trivial), (by first | rfl | trivial), fun hh => hh⟩
theorem st4_back {m : Int} {p : Opr × LS} (h : (st4 m p).2.2 = false) : p.2.2 = false ∧ p.2.1 = optW (hasF m 4) (wtx (st4 m p).1.key) ++ (st4 m p).2.1 ∧ st4 m p = ({ p.1 with key := (st4 m p).1.key }, (st4 m p).2) := by
  unfold st4 optW at *
  cases hf : hasF m 4 with
  | true =>
    rw [hf] at h
    simp only [if_true] at h ⊢
    obtain ⟨h1, h2, h3⟩ := adv_back h
    exact ⟨h1, by rw [← textV_back h3]; exact h2, by first | rfl | trivial⟩
  | false =>
    rw [hf] at h
    simp only [Bool.false_eq_true, if_false] at h ⊢
    exact ⟨h, (by first | rfl | trivial), (by first | rfl | trivial)⟩
theorem st8_back {m : Int} {p : Opr × LS} (h : (st8 m p).2.2 = false) : p.2.2 = false ∧ p.2.1 = optW (hasF m 8) (wtx (st8 m p).1.til) ++ (st8 m p).2.1 ∧ st8 m p = ({ p.1 with til := (st8 m p).1.til }, (st8 m p).2) := by
  unfold st8 optW at *
  cases hf : hasF m 8 with
  | true =>
    rw [hf] at h
    simp only [if_true] at h ⊢
    obtain ⟨h1, h2, h3⟩ := adv_back h
    exact ⟨h1, by rw [← textV_back h3]; exact h2, by first | rfl | trivial⟩
  | false =>
    rw [hf] at h
    simp only [Bool.false_eq_true, if_false] at h ⊢
    exact ⟨h, (by first | rfl | trivial), (by first | rfl | trivial)⟩
theorem st16_back {m : Int} {p : Opr × LS} (h : (st16 m p).2.2 = false) : p.2.2 = false ∧ p.2.1 = optW (hasF m 16) (wtx (st16 m p).1.value) ++ (st16 m p).2.1 ∧ st16 m p = ({ p.1 with value := (st16 m p).1.value }, (st16 m p).2) := by
  unfold st16 optW at *
  cases hf : hasF m 16 with
  | true =>
    rw [hf] at h
    simp only [if_true] at h ⊢
    obtain ⟨h1, h2, h3⟩ := adv_back h
    exact ⟨h1, by rw [← textV_back h3]; exact h2, by first | rfl | trivial⟩
  | false =>
    rw [hf] at h
    simp only [Bool.false_eq_true, if_false] at h ⊢
    exact ⟨h, (by first | rfl | trivial), (by first | rfl | trivial)⟩
theorem st32_back {m : Int} {p : Opr × LS} (h : (st32 m p).2.2 = false) : p.2.2 = false ∧ p.2.1 = optW (hasF m 32) (ito (st32 m p).1.level) ++ (st32 m p).2.1 ∧ st32 m p = ({ p.1 with level := (st32 m p).1.level }, (st32 m p).2) ∧ ((-9223372036854775808 ≤ p.1.level ∧ p.1.level ≤ 9223372036854775807) → (-9223372036854775808 ≤ (st32 m p).1.level ∧ (st32 m p).1.level ≤ 9223372036854775807)) := by
  unfold st32 optW at *
  cases hf : hasF m 32 with
  | true =>
    rw [hf] at h
    simp only [if_true] at h ⊢
    obtain ⟨h1, h2, h3⟩ := adv_back h
    have h4 := intV_back h3
    exact ⟨h1, by rw [← h4.1]; exact h2, by first | rfl | trivial, fun _ => h4.2⟩
  | false =>
    rw [hf] at h
    simp only [Bool.false_eq_true, if_false] at h ⊢
    exact ⟨h, (by first | rfl | trivial), (by first | rfl | trivial), fun hh => hh⟩
/-- what is read of a line was there -/
theorem opOfM_back {m : Int} {q : Opr} {s : LS} (h : (opOfM m (q, s)).2.2 = false) (ok : OprOk q) :
    s.2 = false ∧ (opOfM m (q, s)).1.kind = q.kind ∧ OprOk (opOfM m (q, s)).1 ∧ s.1 = (optW (hasF m 1) (dec (opOfM m (q, s)).1.n) ++ (optW (hasF m 2) (dec (opOfM m (q, s)).1.lsn) ++ (optW (hasF m 4) (wtx (opOfM m (q, s)).1.key) ++ (optW (hasF m 8) (wtx (opOfM m (q, s)).1.til) ++ (optW (hasF m 16) (wtx (opOfM m (q, s)).1.value) ++ (optW (hasF m 32) (ito (opOfM m (q, s)).1.level) ++ (opOfM m (q, s)).2.1)))))) := by
  unfold opOfM at *
  obtain ⟨p1, e1⟩ : ∃ p1, st1 m (q, s) = p1 := ⟨_, rfl⟩
  obtain ⟨p2, e2⟩ : ∃ p2, st2 m p1 = p2 := ⟨_, rfl⟩
  obtain ⟨p4, e4⟩ : ∃ p4, st4 m p2 = p4 := ⟨_, rfl⟩
  obtain ⟨p8, e8⟩ : ∃ p8, st8 m p4 = p8 := ⟨_, rfl⟩
  obtain ⟨p16, e16⟩ : ∃ p16, st16 m p8 = p16 := ⟨_, rfl⟩
  obtain ⟨p32, e32⟩ : ∃ p32, st32 m p16 = p32 := ⟨_, rfl⟩
  rw [e1, e2, e4, e8, e16, e32] at h ⊢
  obtain ⟨a32, b32, c32, d32⟩ := st32_back (m := m) (p := p16) (by rw [e32]; exact h)
  obtain ⟨a16, b16, c16⟩ := st16_back (m := m) (p := p8) (by rw [e16]; exact a32)
  obtain ⟨a8, b8, c8⟩ := st8_back (m := m) (p := p4) (by rw [e8]; exact a16)
  obtain ⟨a4, b4, c4⟩ := st4_back (m := m) (p := p2) (by rw [e4]; exact a8)
  obtain ⟨a2, b2, c2, d2⟩ := st2_back (m := m) (p := p1) (by rw [e2]; exact a4)
  obtain ⟨a1, b1, c1, d1⟩ := st1_back (m := m) (p := (q, s)) (by rw [e1]; exact a2)
  rw [e32] at b32 c32 d32
  rw [e16] at b16 c16
  rw [e8] at b8 c8
  rw [e4] at b4 c4
  rw [e2] at b2 c2 d2
  rw [e1] at b1 c1 d1
  simp only at a1 b1 d1
  have f1 : p1.1 = { q with n := p1.1.n } := congrArg Prod.fst c1
  have f2 : p2.1 = { p1.1 with lsn := p2.1.lsn } := congrArg Prod.fst c2
  have f4 : p4.1 = { p2.1 with key := p4.1.key } := congrArg Prod.fst c4
  have f8 : p8.1 = { p4.1 with til := p8.1.til } := congrArg Prod.fst c8
  have f16 : p16.1 = { p8.1 with value := p16.1.value } := congrArg Prod.fst c16
  have f32 : p32.1 = { p16.1 with level := p32.1.level } := congrArg Prod.fst c32
  have gk : p32.1.kind = q.kind := by rw [f32, f16, f8, f4, f2, f1]
  have gn : p32.1.n = p1.1.n := by rw [f32, f16, f8, f4, f2]
  have gl : p32.1.lsn = p2.1.lsn := by rw [f32, f16, f8, f4]
  have gy : p32.1.key = p4.1.key := by rw [f32, f16, f8]
  have gt : p32.1.til = p8.1.til := by rw [f32, f16]
  have gv : p32.1.value = p16.1.value := by rw [f32]
  have hl1 : p1.1.lsn = q.lsn := by rw [f1]
  have hl2 : p16.1.level = q.level := by rw [f16, f8, f4, f2, f1]
  refine ⟨a1, gk, ⟨by rw [gn]; exact d1 ok.n, by rw [gl]; exact d2 (by rw [hl1]; exact ok.lsn), d32 (by rw [hl2]; exact ok.level)⟩, ?_⟩
  rw [gn, gl, gy, gt, gv, b1, b2, b4, b8, b16, b32]
theorem opZero_ok (k : Int) : OprOk { opZero with kind := k } := ⟨by show 0 < _; omega, by show 0 < _; omega, by show (-9223372036854775808 : Int) ≤ 0 ∧ (0 : Int) ≤ _; omega⟩
theorem opOfS_back {s : LS} (h : (opOfS s).2.2 = false) {m : Int} (hm : getI namedL (opOfS s).1.kind = some m) : s.2 = false ∧ s.1 = opWords (opOfS s).1 m ++ (opOfS s).2.1 ∧ OprOk (opOfS s).1 := by
  unfold opOfS at *
  obtain ⟨h1, h2, h3, h4⟩ := opOfM_back (q := { opZero with kind := kindOf (hd s) }) h (opZero_ok _)
  rw [h2] at hm
  simp only at hm
  rw [hm] at h2 h3 h4 ⊢
  simp only [Option.getD_some] at h2 h3 h4 ⊢
  obtain ⟨g1, g2, _⟩ := adv_back h1
  refine ⟨g1, ?_, h3⟩
  have hr := named_range hm
  have hk := opName_kindOf (x := hd s) (by omega)
  rw [g2, h4, opWords_opt, h2]
  simp only [List.cons_append, List.append_assoc]
  rw [hk.1]
/-- what is read is told as it was -/
theorem opText_of {s : ByteArray} {o : Opr} (h : opOfT s = some o) : mayOp o = true ∧ opText o = s ∧ OprOk o := by
  unfold opOfT at h
  split at h
  · rename_i hc
    cases h
    rw [lineS_cuts] at hc ⊢
    simp only [Bool.and_eq_true, doneS, Bool.not_eq_true', List.isEmpty_iff] at hc
    obtain ⟨⟨h1, h2⟩, h3⟩ := hc
    obtain ⟨m, hm, hw⟩ := mayOp_mask h3
    obtain ⟨g1, g2, g3⟩ := opOfS_back h1 hm
    rw [h2, List.append_nil] at g2
    simp only at g2
    exact ⟨h3, by rw [opText_eq hm, ← g2, join_split], g3⟩
  · cases h
theorem opOfT_none {s : ByteArray} (h : opOfT s = none) (o : Opr) (hm : mayOp o = true) (ok : OprOk o) : opText o ≠ s := by
  intro e
  rw [← e, opOfT_text hm ok] at h
  cases h

/-! ### acts -/
def optsW (b : Bool) (l : List ByteArray) : List ByteArray := if b then l else []
theorem addA_opts (m f : Int) (xs : List Int) (l : List ByteArray) : addA m f xs l = l ++ optsW (hasF m f) (xs.map ito) := by
  unfold addA optsW; split <;> simp
theorem opts_one (b : Bool) (x : ByteArray) : optsW b [x] = optW b x := rfl
/-- an act's words, the operation's among them -/
def actW (a : Ar) (m : Int) (mo : Int) : List ByteArray :=
  actName a.kind :: (optW (hasF m 1) (ito a.node) ++ (optW (hasF m 2) (ito a.source) ++ (optW (hasF m 4) (ito a.n) ++ (optsW (hasF m 8) (opWords a.op mo) ++ optsW (hasF m 16) (a.picks.map ito)))))
theorem actWords_opt (a : Ar) (m : Int) : actWords a m = actName a.kind :: (optW (hasF m 1) (ito a.node) ++ (optW (hasF m 2) (ito a.source) ++ (optW (hasF m 4) (ito a.n) ++ (optW (hasF m 8) (opText a.op) ++ optsW (hasF m 16) (a.picks.map ito))))) := by
  unfold actWords
  simp only [addF_opt, addA_opts, List.map_cons, List.map_nil, opts_one, List.append_assoc, List.cons_append, List.nil_append]
theorem act_join {a : Ar} {m mo : Int} (h : hasF m 8 = true → getI namedL a.op.kind = some mo) : joinS (actWords a m) = joinS (actW a m mo) := by
  rw [actWords_opt]
  unfold actW
  cases h8 : hasF m 8 with
  | false => rfl
  | true =>
    have hm := h h8
    rw [opText_eq hm, opWords_opt]
    unfold optW optsW
    simp only [if_true]
    have := join_deep (actName a.kind :: (optW (hasF m 1) (ito a.node) ++ (optW (hasF m 2) (ito a.source) ++ optW (hasF m 4) (ito a.n)))) (opName a.op.kind) (optW (hasF mo 1) (dec a.op.n) ++ (optW (hasF mo 2) (dec a.op.lsn) ++ (optW (hasF mo 4) (wtx a.op.key) ++ (optW (hasF mo 8) (wtx a.op.til) ++ (optW (hasF mo 16) (wtx a.op.value) ++ optW (hasF mo 32) (ito a.op.level)))))) (optsW (hasF m 16) (a.picks.map ito))
    unfold optW optsW at this
    simpa using this
theorem sa1_fwd (m : Int) (q : Ar) (n : Int) (rest : List ByteArray) (hn : -9223372036854775808 ≤ n ∧ n ≤ 9223372036854775807) (h0 : hasF m 1 = false → n = q.node) : sa1 m (q, (optW (hasF m 1) (ito n) ++ rest, false)) = ({ q with node := n }, (rest, false)) := by
  unfold sa1 optW
  cases h : hasF m 1 with
  | true => simp [hd, adv, intV_ito hn]
  | false => simp [h0 h]
theorem sa2_fwd (m : Int) (q : Ar) (n : Int) (rest : List ByteArray) (hn : -9223372036854775808 ≤ n ∧ n ≤ 9223372036854775807) (h0 : hasF m 2 = false → n = q.source) : sa2 m (q, (optW (hasF m 2) (ito n) ++ rest, false)) = ({ q with source := n }, (rest, false)) := by
  unfold sa2 optW
  cases h : hasF m 2 with
  | true => simp [hd, adv, intV_ito hn]
  | false => simp [h0 h]
theorem sa4_fwd (m : Int) (q : Ar) (n : Int) (rest : List ByteArray) (hn : -9223372036854775808 ≤ n ∧ n ≤ 9223372036854775807) (h0 : hasF m 4 = false → n = q.n) : sa4 m (q, (optW (hasF m 4) (ito n) ++ rest, false)) = ({ q with n := n }, (rest, false)) := by
  unfold sa4 optW
  cases h : hasF m 4 with
  | true => simp [hd, adv, intV_ito hn]
  | false => simp [h0 h]
theorem sa8_fwd (m : Int) (q : Ar) (o : Opr) (mo : Int) (rest : List ByteArray) (h1 : hasF m 8 = true → getI namedL o.kind = some mo ∧ mayW mo o = true ∧ OprOk o) (h0 : hasF m 8 = false → o = q.op) : sa8 m (q, (optsW (hasF m 8) (opWords o mo) ++ rest, false)) = ({ q with op := o }, (rest, false)) := by
  unfold sa8 optsW
  cases h : hasF m 8 with
  | true =>
    obtain ⟨g1, g2, g3⟩ := h1 h
    simp only [if_true]
    rw [opOfS_words g1 g2 g3]
  | false => simp [h0 h]
theorem take_fwd : ∀ (ps acc : List Int), (∀ x ∈ ps, -9223372036854775808 ≤ x ∧ x ≤ 9223372036854775807) → acc.length + ps.length ≤ 513 → takePicks (ps.map ito) false acc = (acc ++ ps, ([], false))
  | [], acc, _, _ => by simp [takePicks]
  | x :: ps, acc, hr, hl => by
    simp only [List.length_cons] at hl
    rw [List.map_cons, takePicks, intV_ito (hr x (by simp))]
    have h1 : (!false && decide (acc.length ≤ 512)) = true := by simp; omega
    rw [if_pos h1]
    simp only
    rw [take_fwd ps (acc ++ [x]) (fun y hy => hr y (by simp [hy])) (by simp; omega)]
    simp
theorem sa16_fwd (m : Int) (q : Ar) (ps : List Int) (hr : ∀ x ∈ ps, -9223372036854775808 ≤ x ∧ x ≤ 9223372036854775807) (hl : ps.length ≤ 512) (h0 : hasF m 16 = false → ps = q.picks) : sa16 m (q, (optsW (hasF m 16) (ps.map ito), false)) = ({ q with picks := ps }, ([], false)) := by
  unfold sa16 optsW
  cases h : hasF m 16 with
  | true =>
    simp only [if_true]
    rw [take_fwd ps [] hr (by simp; omega)]
    simp
  | false => simp [h0 h]
theorem idx_at {xs : List ByteArray} : ∀ (k : Nat) (x : ByteArray) (i : Nat), Lib.idxFromS xs x i = ((i + k : Nat) : Int) → xs[k]? = some x := by
  induction xs with
  | nil => intro k x i h; simp only [Lib.idxFromS] at h; omega
  | cons z zs ih =>
    intro k x i h
    unfold Lib.idxFromS at h
    split at h
    · rename_i e
      have : k = 0 := by omega
      subst this; subst e; rfl
    · cases k with
      | zero =>
        have h1 : ∀ (l : List ByteArray) (j : Nat), Lib.idxFromS l x j = -1 ∨ (j : Int) ≤ Lib.idxFromS l x j := by
          intro l
          induction l with
          | nil => intro j; left; rfl
          | cons a l ihl =>
            intro j
            unfold Lib.idxFromS
            split
            · right; omega
            · rcases ihl (j + 1) with h | h
              · left; exact h
              · right; omega
        rcases h1 zs (i + 1) with h2 | h2 <;> omega
      | succ k => exact ih k x (i + 1) (by rw [h]; congr 1; omega)
theorem actNames_kind : ∀ y : Fin 12, Lib.idxOfS actNames ((actNames[y.val]?).getD ⟨#[]⟩) = (y.val : Int) := by decide +kernel
theorem actName_nm {k : Int} (h1 : 1 ≤ k) (h2 : k ≤ 12) : ∃ y : Fin 12, k = 1 + (y.val : Int) ∧ actName k = (actNames[y.val]?).getD ⟨#[]⟩ := by
  refine ⟨⟨(k - 1).toNat, by omega⟩, by simp only; omega, ?_⟩
  unfold actName
  rw [if_pos h1]
theorem kindOfA_name {k : Int} (h1 : 1 ≤ k) (h2 : k ≤ 12) : kindOfA (actName k) = k := by
  obtain ⟨y, rfl, e⟩ := actName_nm h1 h2
  unfold kindOfA
  rw [e, actNames_kind y]
theorem actName_kindOfA {x : ByteArray} (h1 : 1 ≤ kindOfA x) : actName (kindOfA x) = x := by
  unfold kindOfA at *
  unfold actName
  rw [if_pos h1]
  obtain ⟨k, hk⟩ : ∃ k : Nat, Lib.idxOfS actNames x = k := ⟨(Lib.idxOfS actNames x).toNat, by omega⟩
  have := idx_at (xs := actNames) k x 0 (by rw [Nat.zero_add]; exact hk)
  rw [hk, show ((1 + (k : Int)) - 1).toNat = k by omega, this]
  rfl
theorem an_lack : ∀ y : Fin 12, (bs ((actNames[y.val]?).getD ⟨#[]⟩)).all (fun c => c != 32 && c != 10) = true := by decide
theorem actName_lack {k : Int} (h1 : 1 ≤ k) (h2 : k ≤ 12) : lackB 32 (bs (actName k)) ∧ lackB 10 (bs (actName k)) := by
  obtain ⟨y, _, e⟩ := actName_nm h1 h2
  rw [e]
  have h := List.all_eq_true.1 (an_lack y)
  constructor
  all_goals
    intro x hx
    have := h x hx
    simp at this
    first
    | exact this.1
    | exact this.2
theorem lack_opts {b : Bool} {l : List ByteArray} (h : b = true → lackS l) : lackS (optsW b l) := by
  unfold optsW; split
  · rename_i hb; exact h hb
  · exact lackS_nil
theorem lack_itos (l : List Int) : lackS (l.map ito) := fun x hx => by
  obtain ⟨n, _, rfl⟩ := List.mem_map.1 hx
  exact (lack_itoa n).1
theorem actW_lack {a : Ar} {m mo : Int} (hm : getI ofActL a.kind = some m) (h : hasF m 8 = true → getI namedL a.op.kind = some mo) : lackS (actW a m mo) := by
  have hr := getI_act hm
  exact lackS_cons (actName_lack hr.1 hr.2).1 (lackS_app (lack_opt (lack_itoa _).1) (lackS_app (lack_opt (lack_itoa _).1) (lackS_app (lack_opt (lack_itoa _).1) (lackS_app (lack_opts (fun h8 => opWords_lack (h h8))) (lack_opts (fun _ => lack_itos _))))))
theorem opIsZ_eq {o : Opr} (h : opIsZ o = true) : o = opZero := by
  obtain ⟨k, n, key, til, value, level, lsn⟩ := o
  unfold opIsZ at h
  simp only [Bool.and_eq_true, beq_iff_eq, toList_bs] at h
  obtain ⟨h1, h2, h3, h4, h5, h6, h7⟩ := h
  have e : ∀ {x : ByteArray}, bs x = [] → x = ⟨#[]⟩ := fun {x} hx => by rw [← txt_bs x, hx]; rfl
  have k3 := e h3; have k4 := e h4; have k5 := e h5
  have k2 : n = 0 := by omega
  have k7 : lsn = 0 := by omega
  subst h1 k2 k3 k4 k5 h6 k7
  rfl
theorem mayAct_mask {a : Ar} (h : mayAct a = true) : ∃ m, getI ofActL a.kind = some m ∧ mayA m a = true := by
  cases hm : getI ofActL a.kind with
  | none => rw [mayAct_none hm] at h; cases h
  | some m => rw [mayAct_some hm] at h; exact ⟨m, rfl, h⟩
/-- the mask of an act's operation -/
def opMask (a : Ar) : Int := (getI namedL a.op.kind).getD 0
theorem mayA_parts {a : Ar} {m : Int} (h : mayA m a = true) : (hasF m 1 = false → a.node = 0) ∧ (hasF m 2 = false → a.source = 0) ∧ (hasF m 4 = false → a.n = 0) ∧ (hasF m 8 = false → a.op = opZero) ∧ (hasF m 16 = false → a.picks = []) ∧ a.picks.length ≤ 512 ∧ (hasF m 8 = true → mayOp a.op = true) := by
  unfold mayA at h
  simp only [Bool.and_eq_true, Bool.or_eq_true, beq_iff_eq, decide_eq_true_eq, Bool.not_eq_true'] at h
  obtain ⟨⟨⟨⟨⟨⟨h1, h2⟩, h4⟩, h8⟩, h16⟩, hl⟩, ho⟩ := h
  refine ⟨fun e => ?_, fun e => ?_, fun e => ?_, fun e => ?_, fun e => ?_, hl, fun e => ?_⟩
  · rw [e] at h1; simpa using h1
  · rw [e] at h2; simpa using h2
  · rw [e] at h4; simpa using h4
  · rw [e] at h8; exact opIsZ_eq (by simpa using h8)
  · rw [e] at h16; exact List.eq_nil_of_length_eq_zero (by simpa using h16)
  · rw [e] at ho; simpa using ho
theorem mask_of {a : Ar} (h : mayOp a.op = true) : getI namedL a.op.kind = some (opMask a) ∧ mayW (opMask a) a.op = true := by
  obtain ⟨m, hm, hw⟩ := mayOp_mask h
  unfold opMask
  rw [hm]; exact ⟨rfl, hw⟩
theorem ActOk.op {a : Ar} (h : ActOk a) : OprOk a.op := ⟨h.opn, h.lsn, h.level⟩
theorem actOfS_words {a : Ar} {m : Int} (hm : getI ofActL a.kind = some m) (hw : mayA m a = true) (ok : ActOk a) : actOfS (actW a m (opMask a), false) = (a, ([], false)) := by
  have hr := getI_act hm
  obtain ⟨w1, w2, w4, w8, w16, wl, wo⟩ := mayA_parts hw
  unfold actW actOfS
  have e1 : ∀ t, hd (actName a.kind :: t, false) = actName a.kind := fun t => rfl
  have e2 : ∀ t, adv (actName a.kind :: t, false) false = (t, false) := fun t => rfl
  rw [e1, e2, kindOfA_name hr.1 hr.2, hm]
  unfold actOfM
  simp only [Option.getD_some]
  rw [sa1_fwd m _ a.node _ ok.node (fun h => w1 h)]
  rw [sa2_fwd m _ a.source _ ok.source (fun h => w2 h)]
  rw [sa4_fwd m _ a.n _ ok.n (fun h => w4 h)]
  rw [sa8_fwd m _ a.op (opMask a) _ (fun h => ⟨(mask_of (wo h)).1, (mask_of (wo h)).2, ok.op⟩) (fun h => w8 h)]
  rw [sa16_fwd m _ a.picks ok.picks wl (fun h => w16 h)]
theorem actText_eq {a : Ar} {m : Int} (hm : getI ofActL a.kind = some m) (hw : mayA m a = true) : actText a = joinS (actW a m (opMask a)) := by
  unfold actText
  rw [hm]
  exact act_join fun h => (mask_of ((mayA_parts hw).2.2.2.2.2.2 h)).1
theorem split_actText {a : Ar} {m : Int} (hm : getI ofActL a.kind = some m) (hw : mayA m a = true) : splitT 32 (actText a) = actW a m (opMask a) := by
  rw [actText_eq hm hw]
  exact split_join (actW_lack hm fun h => (mask_of ((mayA_parts hw).2.2.2.2.2.2 h)).1)
theorem actOfT_text {a : Ar} (h : mayAct a = true) (ok : ActOk a) : actOfT (actText a) = some a := by
  obtain ⟨m, hm, hw⟩ := mayAct_mask h
  unfold actOfT
  have e := actOfS_words hm hw ok
  have e1 : hd (actW a m (opMask a), false) = actName a.kind := rfl
  have hr := getI_act hm
  rw [lineS_cuts, split_actText hm hw, e, e1, kindOfA_name hr.1 hr.2, hm]
  simp [doneS, h]

theorem sa1_back {m : Int} {p : Ar × LS} (h : (sa1 m p).2.2 = false) : p.2.2 = false ∧ p.2.1 = optW (hasF m 1) (ito (sa1 m p).1.node) ++ (sa1 m p).2.1 ∧ sa1 m p = ({ p.1 with node := (sa1 m p).1.node }, (sa1 m p).2) ∧ ((-9223372036854775808 ≤ p.1.node ∧ p.1.node ≤ 9223372036854775807) → (-9223372036854775808 ≤ (sa1 m p).1.node ∧ (sa1 m p).1.node ≤ 9223372036854775807)) := by
  unfold sa1 optW at *
  cases hf : hasF m 1 with
  | true =>
    rw [hf] at h
    simp only [if_true] at h ⊢
    obtain ⟨h1, h2, h3⟩ := adv_back h
    have h4 := intV_back h3
    exact ⟨h1, by rw [← h4.1]; exact h2, by first | rfl | trivial, fun _ => h4.2⟩
  | false =>
    rw [hf] at h
    simp only [Bool.false_eq_true, if_false] at h ⊢
    exact ⟨h, (by first | rfl | trivial), (by first | rfl | trivial), fun hh => hh⟩
theorem sa2_back {m : Int} {p : Ar × LS} (h : (sa2 m p).2.2 = false) : p.2.2 = false ∧ p.2.1 = optW (hasF m 2) (ito (sa2 m p).1.source) ++ (sa2 m p).2.1 ∧ sa2 m p = ({ p.1 with source := (sa2 m p).1.source }, (sa2 m p).2) ∧ ((-9223372036854775808 ≤ p.1.source ∧ p.1.source ≤ 9223372036854775807) → (-9223372036854775808 ≤ (sa2 m p).1.source ∧ (sa2 m p).1.source ≤ 9223372036854775807)) := by
  unfold sa2 optW at *
  cases hf : hasF m 2 with
  | true =>
    rw [hf] at h
    simp only [if_true] at h ⊢
    obtain ⟨h1, h2, h3⟩ := adv_back h
    have h4 := intV_back h3
    exact ⟨h1, by rw [← h4.1]; exact h2, by first | rfl | trivial, fun _ => h4.2⟩
  | false =>
    rw [hf] at h
    simp only [Bool.false_eq_true, if_false] at h ⊢
    exact ⟨h, (by first | rfl | trivial), (by first | rfl | trivial), fun hh => hh⟩
theorem sa4_back {m : Int} {p : Ar × LS} (h : (sa4 m p).2.2 = false) : p.2.2 = false ∧ p.2.1 = optW (hasF m 4) (ito (sa4 m p).1.n) ++ (sa4 m p).2.1 ∧ sa4 m p = ({ p.1 with n := (sa4 m p).1.n }, (sa4 m p).2) ∧ ((-9223372036854775808 ≤ p.1.n ∧ p.1.n ≤ 9223372036854775807) → (-9223372036854775808 ≤ (sa4 m p).1.n ∧ (sa4 m p).1.n ≤ 9223372036854775807)) := by
  unfold sa4 optW at *
  cases hf : hasF m 4 with
  | true =>
    rw [hf] at h
    simp only [if_true] at h ⊢
    obtain ⟨h1, h2, h3⟩ := adv_back h
    have h4 := intV_back h3
    exact ⟨h1, by rw [← h4.1]; exact h2, by first | rfl | trivial, fun _ => h4.2⟩
  | false =>
    rw [hf] at h
    simp only [Bool.false_eq_true, if_false] at h ⊢
    exact ⟨h, (by first | rfl | trivial), (by first | rfl | trivial), fun hh => hh⟩
theorem sa8_back {m : Int} {p : Ar × LS} (h : (sa8 m p).2.2 = false) (hmo : hasF m 8 = true → mayOp (sa8 m p).1.op = true) (hz : OprOk p.1.op) :
    p.2.2 = false ∧ p.2.1 = optsW (hasF m 8) (opWords (sa8 m p).1.op (opMask (sa8 m p).1)) ++ (sa8 m p).2.1 ∧ sa8 m p = ({ p.1 with op := (sa8 m p).1.op }, (sa8 m p).2) ∧ OprOk (sa8 m p).1.op := by
  unfold sa8 optsW at *
  cases hf : hasF m 8 with
  | true =>
    rw [hf] at h hmo
    simp only [if_true] at h hmo ⊢
    have hm := mask_of (a := { p.1 with op := (opOfS p.2).1 }) (hmo trivial)
    obtain ⟨h1, h2, h3⟩ := opOfS_back h hm.1
    exact ⟨h1, h2, (by first | rfl | trivial), h3⟩
  | false =>
    rw [hf] at h
    simp only [Bool.false_eq_true, if_false] at h ⊢
    exact ⟨h, (by first | rfl | trivial), (by first | rfl | trivial), hz⟩
theorem take_back : ∀ (ws : List ByteArray) (wr : Bool) (acc : List Int), (takePicks ws wr acc).2.1 = [] → (takePicks ws wr acc).2.2 = false → ∃ ps, (takePicks ws wr acc).1 = acc ++ ps ∧ ws = ps.map ito ∧ wr = false ∧ ∀ x ∈ ps, -9223372036854775808 ≤ x ∧ x ≤ 9223372036854775807
  | [], wr, acc, _, h2 => ⟨[], by simp [takePicks], rfl, h2, fun x hx => by cases hx⟩
  | x :: ws, wr, acc, h1, h2 => by
    unfold takePicks at h1 h2 ⊢
    split at h1
    · rename_i hc
      rw [if_pos hc] at h2
      rw [if_pos hc]
      obtain ⟨ps, g1, g2, g3, g4⟩ := take_back ws _ _ h1 h2
      have hb := intV_back g3
      simp only [Bool.and_eq_true, Bool.not_eq_true'] at hc
      refine ⟨(intV x).1 :: ps, by rw [g1]; simp, ?_, hc.1, fun y hy => ?_⟩
      · rw [List.map_cons, ← g2]
        congr 1
        exact hb.1
      · rcases List.mem_cons.1 hy with rfl | hy
        · exact hb.2
        · exact g4 y hy
    · simp at h1
theorem sa16_back {m : Int} {p : Ar × LS} (hn : (sa16 m p).2.1 = []) (h : (sa16 m p).2.2 = false) (hz : p.1.picks = []) :
    p.2.2 = false ∧ p.2.1 = optsW (hasF m 16) ((sa16 m p).1.picks.map ito) ∧ sa16 m p = ({ p.1 with picks := (sa16 m p).1.picks }, (sa16 m p).2) ∧ ∀ x ∈ (sa16 m p).1.picks, -9223372036854775808 ≤ x ∧ x ≤ 9223372036854775807 := by
  unfold sa16 optsW at *
  cases hf : hasF m 16 with
  | true =>
    rw [hf] at h hn
    simp only [if_true] at h hn ⊢
    obtain ⟨ps, g1, g2, g3, g4⟩ := take_back _ _ _ hn h
    rw [List.nil_append] at g1
    rw [g1]
    exact ⟨g3, g2, (by first | rfl | trivial), g4⟩
  | false =>
    rw [hf] at h hn
    simp only [Bool.false_eq_true, if_false] at h hn ⊢
    exact ⟨h, hn, (by first | rfl | trivial), fun x hx => by rw [hz] at hx; cases hx⟩
theorem actOfM_back {m : Int} {k : Int} {s : LS} (hn : (actOfM m ({ arZero with kind := k }, s)).2.1 = []) (h : (actOfM m ({ arZero with kind := k }, s)).2.2 = false) (hmo : hasF m 8 = true → mayOp (actOfM m ({ arZero with kind := k }, s)).1.op = true) :
    s.2 = false ∧ (actOfM m ({ arZero with kind := k }, s)).1.kind = k ∧ ActOk (actOfM m ({ arZero with kind := k }, s)).1 ∧ actName k :: s.1 = actW (actOfM m ({ arZero with kind := k }, s)).1 m (opMask (actOfM m ({ arZero with kind := k }, s)).1) := by
  unfold actOfM at *
  obtain ⟨p1, e1⟩ : ∃ p1, sa1 m ({ arZero with kind := k }, s) = p1 := ⟨_, rfl⟩
  obtain ⟨p2, e2⟩ : ∃ p2, sa2 m p1 = p2 := ⟨_, rfl⟩
  obtain ⟨p4, e4⟩ : ∃ p4, sa4 m p2 = p4 := ⟨_, rfl⟩
  obtain ⟨p8, e8⟩ : ∃ p8, sa8 m p4 = p8 := ⟨_, rfl⟩
  obtain ⟨p16, e16⟩ : ∃ p16, sa16 m p8 = p16 := ⟨_, rfl⟩
  rw [e1, e2, e4, e8, e16] at h hn hmo ⊢
  -- what no step writes
  have k1 : p1.1.picks = [] ∧ p1.1.op = opZero ∧ p1.1.source = 0 ∧ p1.1.n = 0 ∧ p1.1.kind = k := by
    rw [← e1]; unfold sa1; split <;> exact ⟨rfl, rfl, rfl, rfl, rfl⟩
  have k2 : p2.1.picks = [] ∧ p2.1.op = opZero ∧ p2.1.n = 0 ∧ p2.1.kind = k := by
    rw [← e2]; unfold sa2; split <;> exact ⟨k1.1, k1.2.1, k1.2.2.2.1, k1.2.2.2.2⟩
  have k4 : p4.1.picks = [] ∧ p4.1.op = opZero ∧ p4.1.kind = k := by
    rw [← e4]; unfold sa4; split <;> exact ⟨k2.1, k2.2.1, k2.2.2.2⟩
  have k8 : p8.1.picks = [] ∧ p8.1.kind = k := by
    rw [← e8]; unfold sa8; split <;> exact ⟨k4.1, k4.2.2⟩
  have o16 : p16.1.op = p8.1.op := by rw [← e16]; unfold sa16; split <;> rfl
  obtain ⟨a16, b16, c16, d16⟩ := sa16_back (m := m) (p := p8) (by rw [e16]; exact hn) (by rw [e16]; exact h) k8.1
  obtain ⟨a8, b8, c8, d8⟩ := sa8_back (m := m) (p := p4) (by rw [e8]; exact a16) (by rw [e8, ← o16]; exact hmo) (by rw [k4.2.1]; exact opZero_ok 0)
  obtain ⟨a4, b4, c4, d4⟩ := sa4_back (m := m) (p := p2) (by rw [e4]; exact a8)
  obtain ⟨a2, b2, c2, d2⟩ := sa2_back (m := m) (p := p1) (by rw [e2]; exact a4)
  obtain ⟨a1, b1, c1, d1⟩ := sa1_back (m := m) (p := ({ arZero with kind := k }, s)) (by rw [e1]; exact a2)
  rw [e16] at b16 c16 d16
  rw [e8] at b8 c8 d8
  rw [e4] at b4 c4 d4
  rw [e2] at b2 c2 d2
  rw [e1] at b1 c1 d1
  simp only at a1 b1 d1
  have f2 : p2.1 = { p1.1 with source := p2.1.source } := congrArg Prod.fst c2
  have f4 : p4.1 = { p2.1 with n := p4.1.n } := congrArg Prod.fst c4
  have f8 : p8.1 = { p4.1 with op := p8.1.op } := congrArg Prod.fst c8
  have f16 : p16.1 = { p8.1 with picks := p16.1.picks } := congrArg Prod.fst c16
  have gk : p16.1.kind = k := by rw [f16]; exact k8.2
  have gn : p16.1.node = p1.1.node := by rw [f16, f8, f4, f2]
  have gs : p16.1.source = p2.1.source := by rw [f16, f8, f4]
  have gm : p16.1.n = p4.1.n := by rw [f16, f8]
  have go : opMask p16.1 = opMask p8.1 := by unfold opMask; rw [o16]
  refine ⟨a1, gk, ⟨by rw [gn]; exact d1 (by show (-9223372036854775808 : Int) ≤ 0 ∧ (0 : Int) ≤ _; omega), by rw [gs]; exact d2 (by rw [k1.2.2.1]; omega), by rw [gm]; exact d4 (by rw [k2.2.2.1]; omega), d16, by rw [o16]; exact d8.n, by rw [o16]; exact d8.lsn, by rw [o16]; exact d8.level⟩, ?_⟩
  unfold actW
  rw [gk, gn, gs, gm, o16, go, b1, b2, b4, b8, b16]
theorem sa1_kind (m : Int) (p : Ar × LS) : (sa1 m p).1.kind = p.1.kind := by unfold sa1; split <;> rfl
theorem sa2_kind (m : Int) (p : Ar × LS) : (sa2 m p).1.kind = p.1.kind := by unfold sa2; split <;> rfl
theorem sa4_kind (m : Int) (p : Ar × LS) : (sa4 m p).1.kind = p.1.kind := by unfold sa4; split <;> rfl
theorem sa8_kind (m : Int) (p : Ar × LS) : (sa8 m p).1.kind = p.1.kind := by unfold sa8; split <;> rfl
theorem sa16_kind (m : Int) (p : Ar × LS) : (sa16 m p).1.kind = p.1.kind := by unfold sa16; split <;> rfl
theorem actOfS_kind (s : LS) : (actOfS s).1.kind = kindOfA (hd s) := by
  unfold actOfS actOfM
  rw [sa16_kind, sa8_kind, sa4_kind, sa2_kind, sa1_kind]
theorem actText_of {s : ByteArray} {a : Ar} (h : actOfT s = some a) : mayAct a = true ∧ actText a = s ∧ ActOk a := by
  unfold actOfT at h
  split at h
  · rename_i hc
    cases h
    rw [lineS_cuts] at hc ⊢
    simp only [Bool.and_eq_true, doneS, Bool.not_eq_true', List.isEmpty_iff] at hc
    obtain ⟨⟨h0, h1, h2⟩, h3⟩ := hc
    obtain ⟨m, hm, hw⟩ := mayAct_mask h3
    have hkk : (actOfS (splitT 32 s, false)).1.kind = kindOfA (hd (splitT 32 s, false)) := actOfS_kind _
    have hm' := hm
    rw [hkk] at hm'
    have hr := getI_act hm'
    have hwo := (mayA_parts hw).2.2.2.2.2.2
    have hA : actOfS (splitT 32 s, false) = actOfM m ({ arZero with kind := kindOfA (hd (splitT 32 s, false)) }, adv (splitT 32 s, false) false) := by
      unfold actOfS; rw [hm']; rfl
    have hte := actText_eq hm hw
    rw [hA] at h1 h2 h3 hwo hte ⊢
    obtain ⟨g1, g2, g3, g4⟩ := actOfM_back h2 h1 hwo
    obtain ⟨_, q2, _⟩ := adv_back g1
    refine ⟨h3, ?_, g3⟩
    rw [hte, ← g4, actName_kindOfA hr.1]
    have q3 : hd (splitT 32 s, false) :: (adv (splitT 32 s, false) false).1 = splitT 32 s := q2.symm
    rw [q3, join_split]
  · cases h
end Go.Proofs.YtgplaeopcejmoaaGreatDoor
