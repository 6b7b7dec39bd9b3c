/- How long a script's text is; a script's text is its alone. -/
import Derived.Test.YtgplaeopcejmoaaGreatDoorMuch
import Derived.Test.YtgplaeopcejmoaaGreatDoorRacttext
namespace Go.Proofs.YtgplaeopcejmoaaGreatDoor
open Go.RowKit Go.Shelf

theorem wtx_le (s : ByteArray) : (wtx s).size ≤ 3 * s.size + 2 := by
  have := wordL_length (bs s)
  rw [bs_length] at this
  show (wordL (bs s)).toArray.size ≤ _
  rw [List.size_toArray]; exact this
theorem joinS_size (l : List ByteArray) : (joinS l).size ≤ tot l + l.length := by
  have := join_len l [32]
  simp only [List.length_cons, List.length_nil] at this
  unfold joinS
  show (Lib.join _ [32]).toArray.size ≤ _
  rw [List.size_toArray]; omega
theorem opText_weigh (o : Opr) (ok : OprOk o) : (opText o).size ≤ 120 + 3 * (o.key.size + o.til.size + o.value.size) := by
  unfold opText opWords
  generalize (getI namedL o.kind).getD 0 = m
  have t0 : tot [opName o.kind] ≤ 10 := by rw [tot_one]; exact opName_size _
  have n0 : ([opName o.kind] : List ByteArray).length ≤ 1 := Nat.le_refl _
  have t1 := addF_totle t0 m 1 (dec_size ok.n); have n1 := addF_le n0 m 1 (dec o.n)
  have t2 := addF_totle t1 m 2 (dec_size ok.lsn); have n2 := addF_le n1 m 2 (dec o.lsn)
  have t3 := addF_totle t2 m 4 (wtx_le o.key); have n3 := addF_le n2 m 4 (wtx o.key)
  have t4 := addF_totle t3 m 8 (wtx_le o.til); have n4 := addF_le n3 m 8 (wtx o.til)
  have t5 := addF_totle t4 m 16 (wtx_le o.value); have n5 := addF_le n4 m 16 (wtx o.value)
  have t6 := addF_totle t5 m 32 (ito_size ok.level.1 ok.level.2); have n6 := addF_le n5 m 32 (ito o.level)
  have h := joinS_size (addF m 32 (ito o.level) (addF m 16 (wtx o.value) (addF m 8 (wtx o.til) (addF m 4 (wtx o.key) (addF m 2 (dec o.lsn) (addF m 1 (dec o.n) [opName o.kind]))))))
  omega
theorem actText_weigh (a : Ar) (ok : ActOk a) : (actText a).size ≤ 220 + 22 * weigh a := by
  unfold actText actWords
  generalize (getI ofActL a.kind).getD 0 = m
  have hop := opText_weigh a.op ok.op
  have t0 : tot [actName a.kind] ≤ 10 := by rw [tot_one]; exact actName_size _
  have n0 : ([actName a.kind] : List ByteArray).length ≤ 1 := Nat.le_refl _
  have t1 := addA1_totle t0 m 1 ok.node; have n1 := addA_le n0 m 1 [a.node]
  have t2 := addA1_totle t1 m 2 ok.source; have n2 := addA_le n1 m 2 [a.source]
  have t3 := addA1_totle t2 m 4 ok.n; have n3 := addA_le n2 m 4 [a.n]
  have t4 := addF_totle t3 m 8 hop; have n4 := addF_le n3 m 8 (opText a.op)
  have t5 := addA_totle t4 m 16 ok.picks; have n5 := addA_le n4 m 16 a.picks
  have h := joinS_size (addA m 16 a.picks (addF m 8 (opText a.op) (addA m 4 [a.n] (addA m 2 [a.source] (addA m 1 [a.node] [actName a.kind])))))
  simp only [List.length_singleton] at n1 n2 n3 n4 n5
  unfold weigh
  omega
theorem setNm_size (i : Nat) : (setNm i).size ≤ 8 := by
  unfold setNm
  split <;> decide
theorem setLine_size (s : Sup) (i : Nat) (h : IntOk (setNs s i)) : (setLine s i).size ≤ 30 := by
  have h1 := setNm_size i
  have h2 := ito_size h.1 h.2
  have h3 : (setLine s i).size = (setNm i).size + 1 + (ito (setNs s i)).size := by
    unfold setLine
    rw [← bs_length, joinS_two, List.length_append, List.length_cons, bs_length, bs_length]; omega
  omega
theorem lnB_len_cons (x : ByteArray) (l : List ByteArray) : (lnB (x :: l)).length = x.size + 1 + (lnB l).length := by
  rw [lnB_cons, List.length_append, List.length_cons, bs_length]; omega
theorem acts_len : ∀ l : List Ar, (∀ a ∈ l, ActOk a) → (lnB (l.map actText)).length ≤ 221 * l.length + 22 * weighs l
  | [], _ => by simp [lnB_nil, weighs]
  | a :: l, h => by
    have ih := acts_len l (fun b hb => h b (by simp [hb]))
    have ha := actText_weigh a (h a (by simp))
    rw [List.map_cons, lnB_len_cons, List.length_cons]
    unfold weighs at ih ⊢
    rw [List.map_cons, List.sum_cons]
    omega
theorem scr_len (s : Scr) (ok : ScrOk s) (n : Nat) (h1 : s.acts.length ≤ n) (h2 : weighs s.acts ≤ 300 * n) : (lnB (scrLines s)).length ≤ 155 + 6821 * n := by
  have h := acts_len s.acts ok.acts
  have e0 := setLine_size s.set 0 (ok.set 0); have e1 := setLine_size s.set 1 (ok.set 1); have e2 := setLine_size s.set 2 (ok.set 2); have e3 := setLine_size s.set 3 (ok.set 3); have e4 := setLine_size s.set 4 (ok.set 4)
  rw [scrLines_eq]
  simp only [lnB_len_cons]
  omega
theorem few_len {s : Scr} (ok : ScrOk s) (h : Few s) : (lnB (scrLines s)).length ≤ 1400000 := by
  have := scr_len s ok 200 h.len (by have := h.sum; omega)
  omega
theorem scrText_inj {a b : Scr} (ha : mayScr a = true) (hb : mayScr b = true) (oa : ScrOk a) (ob : ScrOk b) (la : a.acts.length ≤ 65536) (lb : b.acts.length ≤ 65536) (h : scrText a = scrText b) : a = b := by
  have h1 := parse_text ha oa la
  have h2 := parse_text hb ob lb
  rw [h, h2] at h1
  injection h1 with h1
  exact h1.symm
end Go.Proofs.YtgplaeopcejmoaaGreatDoor
