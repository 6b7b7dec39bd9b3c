/- A loop that fills a row of bytes with one byte, of any number of rounds: what the evaluator makes of it. Code whose loops are done by another evaluator; a function that has such loops. -/
import Derived.Test.YtlfljoeafpimpaaGreatDoorMlr
namespace Go.Proofs.YtlfljoeafpimpaaGreatDoor
open Go.RowKit

section
variable {Ty : Tr TypeInfo} {call : CallE} {lf : Nat}
/-! ### one operation behind the other -/
theorem putK_eq {ih : OpsE} {F : Fr} {d : Option Tmp} {v : RV} {h : Hp} (hd : ∀ t, d = some t → t < F.nt) : putK ih F d v h = ih (F.put d v) h := by
  cases d with
  | none => rfl
  | some t =>
    show forceV v (fun v => Bool.rec (motive := fun _ => Option (Fr × Hp)) none (setR F.T t (.leaf v) fun T => ih ⟨F.nt, T, F.D, F.ro⟩ h) (Nat.ble (Nat.succ t) F.nt)) = _
    rw [forceV_eq, Nat.ble_eq_true_of_le (hd t rfl)]
    show setR F.T t (.leaf v) (fun T => ih ⟨F.nt, T, F.D, F.ro⟩ h) = _
    rw [setR_eq]
    rfl
theorem step_op {ops : List Oper} {o : Oper} {ih : OpsE} {F : Fr} {h h' : Hp} {v : RV} (hg : o.guard = none) (hv : evOp Ty call F h o = some (v, h')) (hd : ∀ t, o.dst = some t → t < F.nt) : opsStep Ty call ops o ih F h = ih (F.put o.dst v) h' := by
  have hw : wantE ops F o = some true := by unfold wantE; rw [hg]
  unfold opsStep
  rw [hw]
  show opsGo ih F h o (evOp Ty call F h o) = _
  rw [hv]
  exact putK_eq hd
theorem evOps_cons (ops : List Oper) (o : Oper) (l : List Oper) (F : Fr) (h : Hp) : evOps Ty call ops (o :: l) F h = opsStep Ty call ops o (evOps Ty call ops l) F h := rfl
/-- a frame whose slots are all there -/
def Okf (F : Fr) : Prop := ∃ d, full d F.T ∧ F.nt ≤ 2 ^ d
theorem Okf.put {F : Fr} (hf : Okf F) (t : Tmp) (v : RV) : Okf (F.put (some t) v) := by
  obtain ⟨d, h1, h2⟩ := hf
  exact ⟨d, full_put d F.T t v h1, h2⟩
theorem opd_tmp {F : Fr} {t : Tmp} (ht : t < F.nt) : opd F (.tmp t) = getR F.T t := by
  have h1 : Nat.ble (t + 1) F.nt = true := Nat.ble_eq_true_of_le ht
  unfold opd
  simp only [h1]
theorem opd_same {F : Fr} (hf : Okf F) {t : Tmp} (v : RV) (ht : t < F.nt) : opd (F.put (some t) v) (.tmp t) = some v := by
  obtain ⟨d, h1, h2⟩ := hf
  rw [opd_tmp (F := F.put (some t) v) ht]
  exact getR_put_same d F.T t v h1
theorem opd_other {F : Fr} (hf : Okf F) {t s : Tmp} (v : RV) (ht : t < F.nt) (hs : s < F.nt) (hne : t ≠ s) : opd (F.put (some t) v) (.tmp s) = opd F (.tmp s) := by
  obtain ⟨d, h1, h2⟩ := hf
  rw [opd_tmp (F := F.put (some t) v) hs, opd_tmp hs]
  exact getR_put_other d F.T t s v h1 (Nat.lt_of_lt_of_le ht h2) (Nat.lt_of_lt_of_le hs h2) hne
theorem lt20 {n m : Nat} (hn : 20 ≤ n) (h : m < 20) : m < n := Nat.lt_of_lt_of_le h hn
theorem dst_lt {n m : Nat} (hm : m < n) : ∀ t : Tmp, (some m : Option Tmp) = some t → t < n := fun t ht => by
  cases ht; exact hm
theorem dst_no {n : Nat} : ∀ t : Tmp, (none : Option Tmp) = some t → t < n := fun t ht => by cases ht
/-! ### the loop's body -/
/-- 'i < len(s)'; 's[i] = v'; 'i++', in the temporaries of the law's loop -/
structure FillB (c : Code) (ts tu ti : TypeId) (v : Value) : Prop where
  is : ∃ (g6 g8 g7 : Nat) (o1 o2 o3 o4 o5 o6 o7 o8 o9 oa ob : Oper), c = .seq (.seq (.region g6 #[o1, o2, o3, o4] false) (.cond (.tmp 14) .skip (.exit 0))) (.seq (.block 1 (.region g8 #[o5, o6, o7, o8] false)) (.region g7 #[o9, oa, ob] false)) ∧
    (o1.op = .move (.tmp 3) ∧ o1.dst = some 11 ∧ o1.guard = none) ∧
    (o2.op = .move (.tmp 2) ∧ o2.dst = some 12 ∧ o2.guard = none) ∧
    (o3.op = .call { callee := .builtin .len, args := #[.tmp 12], argTypes := #[ts] } ∧ o3.dst = some 13 ∧ o3.guard = none) ∧
    (o4.op = .binOp .lss ti (.tmp 11) (.tmp 13) ti ∧ o4.dst = some 14 ∧ o4.guard = none) ∧
    (o5.op = .move (.tmp 2) ∧ o5.dst = some 17 ∧ o5.guard = none) ∧
    (o6.op = .move (.tmp 3) ∧ o6.dst = some 18 ∧ o6.guard = none) ∧
    (o7.op = .indexAddr ts (.tmp 17) (.tmp 18) ∧ o7.dst = some 19 ∧ o7.guard = none) ∧
    (o8.op = .store tu (.tmp 19) (.const v) ∧ o8.dst = none ∧ o8.guard = none) ∧
    (o9.op = .move (.tmp 3) ∧ o9.dst = some 15 ∧ o9.guard = none) ∧
    (oa.op = .binOp .add ti (.tmp 15) (.const (.int .i64 1)) ti ∧ oa.dst = some 16 ∧ oa.guard = none) ∧
    (ob.op = .assign (.tmp 16) ∧ ob.dst = some 3 ∧ ob.guard = none)
theorem evOp_move {F : Fr} {h : Hp} {o : Oper} {x : Operand} {v : RV} (ho : o.op = .move x ∨ o.op = .assign x) (hx : opd F x = some v) : evOp Ty call F h o = some (v, h) := by
  have : opMove F h x = some (v, h) := by unfold opMove; rw [hx]; rfl
  unfold evOp
  rcases ho with ho | ho <;> (rw [ho]; exact this)
/-- the test -/
theorem fill_test {ts ti : TypeId} {el : TypeId} (hts : undE Ty ts = some (.slice el)) {o1 o2 o3 o4 : Oper} (h1 : o1.op = .move (.tmp 3) ∧ o1.dst = some 11 ∧ o1.guard = none)
    (h2 : o2.op = .move (.tmp 2) ∧ o2.dst = some 12 ∧ o2.guard = none) (h3 : o3.op = .call { callee := .builtin .len, args := #[.tmp 12], argTypes := #[ts] } ∧ o3.dst = some 13 ∧ o3.guard = none)
    (h4 : o4.op = .binOp .lss ti (.tmp 11) (.tmp 13) ti ∧ o4.dst = some 14 ∧ o4.guard = none) {F : Fr} (hf : Okf F) (hn : 20 ≤ F.nt) {b n cp k : Nat} {h : Hp}
    (hs : opd F (.tmp 2) = some (.sl b 0 n cp)) (hi : opd F (.tmp 3) = some (.lit (.int .i64 (.ofNat k)))) (_l : List Oper) (g : Nat) :
    evCode Ty call lf (.region g #[o1, o2, o3, o4] false) F h = some (.normal, (((F.put (some 11) (.lit (.int .i64 (.ofNat k)))).put (some 12) (.sl b 0 n cp)).put (some 13) (intV n)).put (some 14) (.lit (.bool (decide (k < n)))), h) := by
  show regE (evOps Ty call [o1, o2, o3, o4] [o1, o2, o3, o4] F h) = _
  obtain ⟨p1, d1, g1⟩ := h1
  obtain ⟨p2, d2, g2⟩ := h2
  obtain ⟨p3, d3, g3⟩ := h3
  obtain ⟨p4, d4, g4⟩ := h4
  have f1 := hf.put 11 (.lit (.int .i64 (.ofNat k)))
  have f2 := f1.put 12 (.sl b 0 n cp)
  have f3 := f2.put 13 (intV n)
  rw [evOps_cons, step_op (v := .lit (.int .i64 (.ofNat k))) (h' := h) g1 (evOp_move (.inl p1) hi) (by rw [d1]; exact dst_lt (lt20 hn (by decide : 11 < 20))), d1]
  rw [evOps_cons, step_op (v := .sl b 0 n cp) (h' := h) g2 (evOp_move (.inl p2) (by rw [opd_other hf _ (lt20 hn (by decide : 11 < 20)) (lt20 hn (by decide : 2 < 20)) (by decide)]; exact hs)) (by rw [d2]; exact dst_lt (lt20 hn (by decide : 12 < 20))), d2]
  have e12 : opd ((F.put (some 11) (.lit (.int .i64 (.ofNat k)))).put (some 12) (.sl b 0 n cp)) (.tmp 12) = some (.sl b 0 n cp) := opd_same f1 _ (lt20 hn (by decide : 12 < 20))
  rw [evOps_cons, step_op (v := intV n) (h' := h) g3 (by
    unfold evOp; rw [p3]
    show opCall Ty call _ h _ = _
    unfold opCall
    have hx : opds ((F.put (some 11) (.lit (.int .i64 (.ofNat k)))).put (some 12) (.sl b 0 n cp)) (#[Operand.tmp 12] : Array Operand).toList = some [.sl b 0 n cp] := by
      simp only [opds, e12]
    simp only [hx]
    show evBi Ty h .len [ts] [.sl b 0 n cp] = _
    simp only [evBi, evLen, hts, lenS', Option.map_some]) (by rw [d3]; exact dst_lt (lt20 hn (by decide : 13 < 20))), d3]
  have e11 : opd (((F.put (some 11) (.lit (.int .i64 (.ofNat k)))).put (some 12) (.sl b 0 n cp)).put (some 13) (intV n)) (.tmp 11) = some (.lit (.int .i64 (.ofNat k))) := by
    rw [opd_other f2 _ (lt20 hn (by decide : 13 < 20)) (lt20 hn (by decide : 11 < 20)) (by decide), opd_other f1 _ (lt20 hn (by decide : 12 < 20)) (lt20 hn (by decide : 11 < 20)) (by decide), opd_same hf _ (lt20 hn (by decide : 11 < 20))]
  have e13 : opd (((F.put (some 11) (.lit (.int .i64 (.ofNat k)))).put (some 12) (.sl b 0 n cp)).put (some 13) (intV n)) (.tmp 13) = some (intV n) := opd_same f2 _ (lt20 hn (by decide : 13 < 20))
  rw [evOps_cons, step_op (v := .lit (.bool (decide (k < n)))) (h' := h) g4 (by
    unfold evOp; rw [p4]
    show opBin Ty call.flat _ h .lss ti (.tmp 11) (.tmp 13) = _
    unfold opBin
    simp only [e11, e13]
    have hb : evBin .lss (.lit (.int .i64 (.ofNat k))) (intV n) = some (.lit (.bool (decide (k < n)))) := by
      show some (RV.lit (.bool (decide ((Int.ofNat k) < (n : Int))))) = _
      congr 3
      simp
    simp only [hb]) (by rw [d4]; exact dst_lt (lt20 hn (by decide : 14 < 20))), d4]
  rfl
/-- the store -/
theorem fill_store {ts tu el : TypeId} {c0 : Nat} (hts : undE Ty ts = some (.slice el)) (hel : szE Ty el = some 1) (htu : szE Ty tu = some 1) {o5 o6 o7 o8 : Oper} (h5 : o5.op = .move (.tmp 2) ∧ o5.dst = some 17 ∧ o5.guard = none)
    (h6 : o6.op = .move (.tmp 3) ∧ o6.dst = some 18 ∧ o6.guard = none) (h7 : o7.op = .indexAddr ts (.tmp 17) (.tmp 18) ∧ o7.dst = some 19 ∧ o7.guard = none)
    (h8 : o8.op = .store tu (.tmp 19) (.const (.int .u8 (.ofNat c0))) ∧ o8.dst = none ∧ o8.guard = none) {F : Fr} (hf : Okf F) (hn : 20 ≤ F.nt) {b n cp k : Nat} {h : Hp}
    (hs : opd F (.tmp 2) = some (.sl b 0 n cp)) (hi : opd F (.tmp 3) = some (.lit (.int .i64 (.ofNat k)))) (hk : k < n) {y : RO} {cs : List Seg} {ty : TypeId} (hb : h.at? b = some y) (hcs : y.segs = some (cs, ty)) (hl : lenS cs = n) (g : Nat) :
    evCode Ty call lf (.region g #[o5, o6, o7, o8] false) F h = some (.normal, ((F.put (some 17) (.sl b 0 n cp)).put (some 18) (.lit (.int .i64 (.ofNat k)))).put (some 19) (.ptr b k), h.put b (y.withS (putS cs k [.one (.lit (.int .u8 (.ofNat c0)))]))) := by
  show regE (evOps Ty call [o5, o6, o7, o8] [o5, o6, o7, o8] F h) = _
  obtain ⟨p5, d5, g5⟩ := h5
  obtain ⟨p6, d6, g6⟩ := h6
  obtain ⟨p7, d7, g7⟩ := h7
  obtain ⟨p8, d8, g8⟩ := h8
  have f5 := hf.put 17 (.sl b 0 n cp)
  have f6 := f5.put 18 (.lit (.int .i64 (.ofNat k)))
  rw [evOps_cons, step_op (v := .sl b 0 n cp) (h' := h) g5 (evOp_move (.inl p5) hs) (by rw [d5]; exact dst_lt (lt20 hn (by decide : 17 < 20))), d5]
  rw [evOps_cons, step_op (v := .lit (.int .i64 (.ofNat k))) (h' := h) g6 (evOp_move (.inl p6) (by rw [opd_other hf _ (lt20 hn (by decide : 17 < 20)) (lt20 hn (by decide : 3 < 20)) (by decide)]; exact hi)) (by rw [d6]; exact dst_lt (lt20 hn (by decide : 18 < 20))), d6]
  have e17 : opd ((F.put (some 17) (.sl b 0 n cp)).put (some 18) (.lit (.int .i64 (.ofNat k)))) (.tmp 17) = some (.sl b 0 n cp) := by
    rw [opd_other f5 _ (lt20 hn (by decide : 18 < 20)) (lt20 hn (by decide : 17 < 20)) (by decide), opd_same hf _ (lt20 hn (by decide : 17 < 20))]
  have e18 : opd ((F.put (some 17) (.sl b 0 n cp)).put (some 18) (.lit (.int .i64 (.ofNat k)))) (.tmp 18) = some (.lit (.int .i64 (.ofNat k))) := opd_same f5 _ (lt20 hn (by decide : 18 < 20))
  rw [evOps_cons, step_op (v := .ptr b k) (h' := h) g7 (by
    unfold evOp; rw [p7]
    show opIA Ty _ h ts (.tmp 17) (.tmp 18) = _
    unfold opIA
    simp only [e17, e18]
    have : evIndexA Ty ts (.sl b 0 n cp) (.lit (.int .i64 (.ofNat k))) = some (.ptr b k) := by
      have h1 : Nat.ble (k + 1) n = true := Nat.ble_eq_true_of_le hk
      simp only [evIndexA, hts, rowOf, hel, h1, Nat.zero_add, Nat.mul_one]
    rw [this]
    rfl) (by rw [d7]; exact dst_lt (lt20 hn (by decide : 19 < 20))), d7]
  have e19 : opd (((F.put (some 17) (.sl b 0 n cp)).put (some 18) (.lit (.int .i64 (.ofNat k)))).put (some 19) (.ptr b k)) (.tmp 19) = some (.ptr b k) := opd_same f6 _ (lt20 hn (by decide : 19 < 20))
  rw [evOps_cons, step_op (v := .lit undef) (h' := h.put b (y.withS (putS cs k [.one (.lit (.int .u8 (.ofNat c0)))]))) g8 (by
    unfold evOp; rw [p8]
    show opStore Ty _ h tu (.tmp 19) (.const (.int .u8 (.ofNat c0))) = _
    unfold opStore
    have hc : opd (((F.put (some 17) (.sl b 0 n cp)).put (some 18) (.lit (.int .i64 (.ofNat k)))).put (some 19) (.ptr b k)) (.const (.int .u8 (.ofNat c0))) = some (.lit (.int .u8 (.ofNat c0))) := rfl
    simp only [e19, hc]
    have : evStore Ty h tu (.ptr b k) (.lit (.int .u8 (.ofNat c0))) = some (h.put b (y.withS (putS cs k [.one (.lit (.int .u8 (.ofNat c0)))]))) := by
      have h1 : Nat.ble (k + 1) (lenS cs) = true := Nat.ble_eq_true_of_le (by omega)
      have h2 : (RV.lit (.int .u8 (.ofNat c0))).segs = [.one (.lit (.int .u8 (.ofNat c0)))] := rfl
      simp only [evStore, hb, hcs, htu, h2, h1]
      rfl
    rw [this]
    rfl) (by rw [d8]; exact dst_no), d8]
  rfl
/-- the step -/
theorem fill_inc {ti : TypeId} {o9 oa ob : Oper} (h9 : o9.op = .move (.tmp 3) ∧ o9.dst = some 15 ∧ o9.guard = none)
    (ha : oa.op = .binOp .add ti (.tmp 15) (.const (.int .i64 1)) ti ∧ oa.dst = some 16 ∧ oa.guard = none) (hb : ob.op = .assign (.tmp 16) ∧ ob.dst = some 3 ∧ ob.guard = none) {F : Fr} (hf : Okf F) (hn : 20 ≤ F.nt) {k : Nat} (hk : k < 1000000000) {h : Hp}
    (hi : opd F (.tmp 3) = some (.lit (.int .i64 (.ofNat k)))) (g : Nat) :
    evCode Ty call lf (.region g #[o9, oa, ob] false) F h = some (.normal, ((F.put (some 15) (.lit (.int .i64 (.ofNat k)))).put (some 16) (.lit (.int .i64 (.ofNat (k + 1))))).put (some 3) (.lit (.int .i64 (.ofNat (k + 1)))), h) := by
  show regE (evOps Ty call [o9, oa, ob] [o9, oa, ob] F h) = _
  obtain ⟨p9, d9, g9⟩ := h9
  obtain ⟨pa, da, ga⟩ := ha
  obtain ⟨pb, db, gb⟩ := hb
  have f9 := hf.put 15 (.lit (.int .i64 (.ofNat k)))
  have fa := f9.put 16 (.lit (.int .i64 (.ofNat (k + 1))))
  rw [evOps_cons, step_op (v := .lit (.int .i64 (.ofNat k))) (h' := h) g9 (evOp_move (.inl p9) hi) (by rw [d9]; exact dst_lt (lt20 hn (by decide : 15 < 20))), d9]
  have e15 : opd (F.put (some 15) (.lit (.int .i64 (.ofNat k)))) (.tmp 15) = some (.lit (.int .i64 (.ofNat k))) := opd_same hf _ (lt20 hn (by decide : 15 < 20))
  rw [evOps_cons, step_op (v := .lit (.int .i64 (.ofNat (k + 1)))) (h' := h) ga (by
    unfold evOp; rw [pa]
    show opBin Ty call.flat _ h .add ti (.tmp 15) (.const (.int .i64 1)) = _
    unfold opBin
    have hc : opd (F.put (some 15) (.lit (.int .i64 (.ofNat k)))) (.const (.int .i64 1)) = some (.lit (.int .i64 1)) := rfl
    simp only [e15, hc]
    have hbb : evBin .add (.lit (.int .i64 (.ofNat k))) (.lit (.int .i64 1)) = some (.lit (.int .i64 (.ofNat (k + 1)))) := by
      show some (RV.lit (.int .i64 (IntKind.i64.wrap (Int.ofNat k + 1)))) = _
      have : IntKind.i64.wrap (Int.ofNat k + 1) = Int.ofNat (k + 1) := by
        rw [IntKind.wrap_i64]
        show _ = ((k + 1 : Nat) : Int)
        have : Int.ofNat k = (k : Int) := rfl
        rw [this]
        omega
      rw [this]
    simp only [hbb]) (by rw [da]; exact dst_lt (lt20 hn (by decide : 16 < 20))), da]
  have e16 : opd ((F.put (some 15) (.lit (.int .i64 (.ofNat k)))).put (some 16) (.lit (.int .i64 (.ofNat (k + 1))))) (.tmp 16) = some (.lit (.int .i64 (.ofNat (k + 1)))) := opd_same f9 _ (lt20 hn (by decide : 16 < 20))
  rw [evOps_cons, step_op (v := .lit (.int .i64 (.ofNat (k + 1)))) (h' := h) gb (evOp_move (.inr pb) e16) (by rw [db]; exact dst_lt (lt20 hn (by decide : 3 < 20))), db]
  rfl
/-! ### rounds -/
/-- the temporaries that the loop turns -/
def filT : List Nat := [3, 11, 12, 13, 14, 15, 16, 17, 18, 19]
/-- two frames that are alike but for those -/
structure Fag (F F' : Fr) : Prop where
  ok : Okf F'
  nt : F'.nt = F.nt
  D : F'.D = F.D
  ro : F'.ro = F.ro
  at_ : ∀ j, j < F.nt → j ∉ filT → opd F' (.tmp j) = opd F (.tmp j)
theorem Fag.refl {F : Fr} (hf : Okf F) : Fag F F := ⟨hf, rfl, rfl, rfl, fun _ _ _ => rfl⟩
theorem Fag.put {F F' : Fr} (h : Fag F F') {t : Tmp} (v : RV) (hn : 20 ≤ F.nt) (ht : t ∈ filT) (h20 : t < 20) : Fag F (F'.put (some t) v) :=
  ⟨h.ok.put t v, h.nt, h.D, h.ro, fun j hj hno => by
    rw [opd_other h.ok v (by rw [h.nt]; exact lt20 hn h20) (by rw [h.nt]; exact hj) (fun e => hno (by rw [← e]; exact ht))]
    exact h.at_ j hj hno⟩
/-- the row behind so many rounds -/
def rowAt (x : Value) (k n : Nat) : List Value := List.replicate k x ++ List.replicate (n - k) (.int .u8 0)
theorem rowAt_step (x : Value) {k n : Nat} (hk : k < n) : (rowAt x k n).take k ++ [x] ++ (rowAt x k n).drop (k + 1) = rowAt x (k + 1) n := by
  have h1 : n - k = (n - (k + 1)) + 1 := by omega
  unfold rowAt
  rw [List.take_left' (List.length_replicate ..), h1, List.replicate_succ, List.drop_append, List.length_replicate, List.drop_eq_nil_of_le (by simp), Nat.add_sub_cancel_left, List.drop_one, List.tail_cons, List.nil_append, List.replicate_succ', ]
theorem fill_round {c : Code} {ts tu ti el : TypeId} {c0 : Nat} (hc : FillB c ts tu ti (.int .u8 (.ofNat c0))) (hts : undE Ty ts = some (.slice el)) (hel : szE Ty el = some 1) (htu : szE Ty tu = some 1) {F F1 : Fr} (hn : 20 ≤ F.nt) (ha : Fag F F1) {b n cp k : Nat} {h : Hp} (hb9 : n ≤ 1000000000)
    (hs : opd F (.tmp 2) = some (.sl b 0 n cp)) (hi : opd F1 (.tmp 3) = some (.lit (.int .i64 (.ofNat k)))) {y : RO} {cs : List Seg} {ty : TypeId} (hb : h.at? b = some y) (hcs : y.segs = some (cs, ty)) (hl : lenS cs = n) :
    (k < n → ∃ F2, evCode Ty call lf c F1 h = some (.normal, F2, h.put b (y.withS (putS cs k [.one (.lit (.int .u8 (.ofNat c0)))]))) ∧ Fag F F2 ∧ opd F2 (.tmp 3) = some (.lit (.int .i64 (.ofNat (k + 1))))) ∧
    (¬ k < n → ∃ F2, evCode Ty call lf c F1 h = some (.exit 0, F2, h) ∧ Fag F F2) := by
  obtain ⟨g6, g8, g7, o1, o2, o3, o4, o5, o6, o7, o8, o9, oa, ob, rfl, q1, q2, q3, q4, q5, q6, q7, q8, q9, qa, qb⟩ := hc.is
  have hn1 : 20 ≤ F1.nt := by rw [ha.nt]; exact hn
  have hs1 : opd F1 (.tmp 2) = some (.sl b 0 n cp) := by rw [ha.at_ 2 (lt20 hn (by decide)) (by decide)]; exact hs
  have t1 := fill_test (call := call) (lf := lf) (h := h) hts q1 q2 q3 q4 ha.ok hn1 hs1 hi [] g6
  let Fa := (((F1.put (some 11) (.lit (.int .i64 (.ofNat k)))).put (some 12) (.sl b 0 n cp)).put (some 13) (intV n)).put (some 14) (.lit (.bool (decide (k < n))))
  have hA : Fag F Fa := (((ha.put _ hn (by decide) (by decide)).put _ hn (by decide) (by decide)).put _ hn (by decide) (by decide)).put _ hn (by decide) (by decide)
  have h14 : opd Fa (.tmp 14) = some (.lit (.bool (decide (k < n)))) := opd_same (((ha.put _ hn (by decide) (by decide)).put _ hn (by decide) (by decide)).put _ hn (by decide) (by decide)).ok _ (lt20 hn1 (by decide : 14 < 20))
  have hna : 20 ≤ Fa.nt := hn1
  have ha3 : opd Fa (.tmp 3) = some (.lit (.int .i64 (.ofNat k))) := by
    have a1 := ha.ok.put 11 (.lit (.int .i64 (.ofNat k)))
    have a2 := a1.put 12 (.sl b 0 n cp)
    have a3 := a2.put 13 (intV n)
    show opd ((((F1.put (some 11) _).put (some 12) _).put (some 13) _).put (some 14) _) (.tmp 3) = _
    rw [opd_other a3 _ (lt20 hn1 (by decide : 14 < 20)) (lt20 hn1 (by decide : 3 < 20)) (by decide), opd_other a2 _ (lt20 hn1 (by decide : 13 < 20)) (lt20 hn1 (by decide : 3 < 20)) (by decide),
      opd_other a1 _ (lt20 hn1 (by decide : 12 < 20)) (lt20 hn1 (by decide : 3 < 20)) (by decide), opd_other ha.ok _ (lt20 hn1 (by decide : 11 < 20)) (lt20 hn1 (by decide : 3 < 20)) (by decide)]
    exact hi
  have has : opd Fa (.tmp 2) = some (.sl b 0 n cp) := by rw [hA.at_ 2 (lt20 hn (by decide)) (by decide)]; exact hs
  have hseq : ∀ A B : Code, evCode Ty call lf (.seq A B) F1 h = thenE (evCode Ty call lf B) (evCode Ty call lf A F1 h) := fun _ _ => rfl
  have hcond : evCode Ty call lf (.seq (.region g6 #[o1, o2, o3, o4] false) (.cond (.tmp 14) .skip (.exit 0))) F1 h = condE Fa h (some (.lit (.bool (decide (k < n))))) (evCode Ty call lf .skip) (evCode Ty call lf (.exit 0)) := by
    rw [hseq, t1]
    show condE Fa h (opd Fa (.tmp 14)) _ _ = _
    rw [h14]
    rfl
  constructor
  · intro hk
    have t2 := fill_store (call := call) (lf := lf) (c0 := c0) (tu := tu) hts hel htu q5 q6 q7 q8 hA.ok hna has ha3 hk hb hcs hl g8
    let Fb := ((Fa.put (some 17) (.sl b 0 n cp)).put (some 18) (.lit (.int .i64 (.ofNat k)))).put (some 19) (.ptr b k)
    have hB : Fag F Fb := ((hA.put _ hn (by decide) (by decide)).put _ hn (by decide) (by decide)).put _ hn (by decide) (by decide)
    have hb3 : opd Fb (.tmp 3) = some (.lit (.int .i64 (.ofNat k))) := by
      have a1 := hA.ok.put 17 (.sl b 0 n cp)
      have a2 := a1.put 18 (.lit (.int .i64 (.ofNat k)))
      show opd (((Fa.put (some 17) _).put (some 18) _).put (some 19) _) (.tmp 3) = _
      rw [opd_other a2 _ (lt20 hna (by decide : 19 < 20)) (lt20 hna (by decide : 3 < 20)) (by decide), opd_other a1 _ (lt20 hna (by decide : 18 < 20)) (lt20 hna (by decide : 3 < 20)) (by decide),
        opd_other hA.ok _ (lt20 hna (by decide : 17 < 20)) (lt20 hna (by decide : 3 < 20)) (by decide)]
      exact ha3
    have t3 := fill_inc (Ty := Ty) (call := call) (lf := lf) (h := h.put b (y.withS (putS cs k [.one (.lit (.int .u8 (.ofNat c0)))]))) q9 qa qb hB.ok (show 20 ≤ Fb.nt from hna) (show k < 1000000000 by omega) hb3 g7
    refine ⟨_, ?_, ((hB.put (.lit (.int .i64 (.ofNat k))) (t := 15) hn (by decide) (by decide)).put (.lit (.int .i64 (.ofNat (k + 1)))) (t := 16) hn (by decide) (by decide)).put (.lit (.int .i64 (.ofNat (k + 1)))) (t := 3) hn (by decide) (by decide), opd_same ((hB.put (.lit (.int .i64 (.ofNat k))) (t := 15) hn (by decide) (by decide)).put (.lit (.int .i64 (.ofNat (k + 1)))) (t := 16) hn (by decide) (by decide)).ok _ (lt20 hna (by decide : 3 < 20))⟩
    rw [hseq, hcond]
    have hd : decide (k < n) = true := decide_eq_true hk
    rw [hd]
    show thenE (evCode Ty call lf (.region g7 #[o9, oa, ob] false)) (blockE 1 (evCode Ty call lf (.region g8 #[o5, o6, o7, o8] false) Fa h)) = _
    rw [t2]
    exact t3
  · intro hk
    refine ⟨Fa, ?_, hA⟩
    rw [hseq, hcond]
    have hd : decide (k < n) = false := decide_eq_false hk
    rw [hd]
    rfl
/-! ### all rounds -/
theorem withS_segs {y : RO} {cs : List Seg} {ty : TypeId} (hy : y.segs = some (cs, ty)) (ds : List Seg) : (y.withS ds).segs = some (ds, ty) := by
  cases y <;> first
    | (simp only [RO.segs, Option.some.injEq, Prod.mk.injEq] at hy; simp only [RO.withS, RO.segs, hy.2])
    | (cases hy; done)
theorem withS_self {y : RO} {cs : List Seg} {ty : TypeId} (hy : y.segs = some (cs, ty)) : y.withS cs = y := by
  cases y <;> first
    | (simp only [RO.segs, Option.some.injEq, Prod.mk.injEq] at hy; simp only [RO.withS, hy.1])
    | (cases hy; done)
theorem withS_withS (y : RO) (cs ds : List Seg) : (y.withS cs).withS ds = y.withS ds := by cases y <;> rfl
theorem fill_all {c : Code} {ts tu ti el : TypeId} {c0 : Nat} (hc : FillB c ts tu ti (.int .u8 (.ofNat c0))) (hts : undE Ty ts = some (.slice el)) (hel : szE Ty el = some 1) (htu : szE Ty tu = some 1) {F : Fr} (hn : 20 ≤ F.nt) {b n cp : Nat} {h : Hp} (hb9 : n ≤ 1000000000)
    (hs : opd F (.tmp 2) = some (.sl b 0 n cp)) {y : RO} {cs : List Seg} {ty : TypeId} (hcs : y.segs = some (cs, ty)) : ∀ (m k : Nat) (F1 : Fr) (h1 : Hp) (cs1 : List Seg) (fuel : Nat), k + m = n → m < fuel → Fag F F1 → opd F1 (.tmp 3) = some (.lit (.int .i64 (.ofNat k))) →
      h1.nx = h.nx → (∀ j, j ≠ b → h1.at? j = h.at? j) → h1.at? b = some (y.withS cs1) → (∀ e, trS e cs1 = rowAt (.int .u8 (.ofNat c0)) k n) →
      ∃ F2 h2 cs2, loopE (evCode Ty call lf c) fuel F1 h1 = some (.exit 0, F2, h2) ∧ Fag F F2 ∧ h2.nx = h.nx ∧ (∀ j, j ≠ b → h2.at? j = h.at? j) ∧ h2.at? b = some (y.withS cs2) ∧ (∀ e, trS e cs2 = rowAt (.int .u8 (.ofNat c0)) n n)
  | m, k, F1, h1, cs1, 0, _, hfu, _, _, _, _, _, _ => absurd hfu (Nat.not_lt_zero _)
  | m, k, F1, h1, cs1, fuel + 1, hkm, hfu, hag, hi, hnx, hoth, hb, htr => by
    have hl : lenS cs1 = n := by
      rw [← trS_len ⟨fun _ => 0, fun _ => 0⟩, htr]
      simp [rowAt]; omega
    have hstep := fill_round (call := call) (lf := lf) hc hts hel htu hn hag hb9 hs hi hb (withS_segs hcs cs1) hl
    have hloop : loopE (evCode Ty call lf c) (fuel + 1) F1 h1 = thenE (loopE (evCode Ty call lf c) fuel) (evCode Ty call lf c F1 h1) := rfl
    rcases Nat.lt_or_ge k n with hk | hk
    · obtain ⟨F2, hr, hag2, hi2⟩ := hstep.1 hk
      rw [withS_withS] at hr
      have hbs := at_small hb
      obtain ⟨m, rfl⟩ : ∃ j, m = j + 1 := ⟨m - 1, by omega⟩
      have htr2 : ∀ e, trS e (putS cs1 k [.one (.lit (.int .u8 (.ofNat c0)))]) = rowAt (.int .u8 (.ofNat c0)) (k + 1) n := fun e => by
        rw [putS_tr, htr]
        exact rowAt_step _ hk
      obtain ⟨F3, h3, cs3, hr3, hag3, hnx3, hoth3, hb3, htr3⟩ := fill_all hc hts hel htu hn hb9 hs hcs m (k + 1) F2 (h1.put b (y.withS (putS cs1 k [.one (.lit (.int .u8 (.ofNat c0)))]))) _ fuel (by omega) (by omega) hag2 hi2 hnx
        (fun j hj => by rw [put_other _ hbs (Ne.symm hj)]; exact hoth j hj) (put_same _ hbs) htr2
      refine ⟨F3, h3, cs3, ?_, hag3, hnx3, hoth3, hb3, htr3⟩
      rw [hloop, hr]
      exact hr3
    · obtain ⟨F2, hr, hag2⟩ := hstep.2 (Nat.not_lt.2 hk)
      obtain rfl : k = n := by omega
      refine ⟨F2, h1, cs1, ?_, hag2, hnx, hoth, hb, htr⟩
      rw [hloop, hr]
      rfl
theorem getR_put_nil {α : Type} : ∀ (d : Nat) (t : Tr α) (i : Nat), full d t → getR (putR t i .nil) i = none
  | 0, .nil, _, _ => rfl
  | 0, .leaf _, _, _ => rfl
  | 0, .node _ _, _, h => h.elim
  | _ + 1, .nil, _, h => h.elim
  | _ + 1, .leaf _, _, h => h.elim
  | d + 1, .node l r, i, h => by
    rw [putR_node]
    split
    · rename_i h0
      rw [getR_node, if_pos h0]; exact getR_put_nil d l _ h.1
    · rename_i h0
      rw [getR_node, if_neg h0]; exact getR_put_nil d r _ h.2
end
section
variable {P : Program} {Ty : Tr TypeInfo} {B : Nat → Prop} {w0 w : World} {e : Nv} {h h' : Hp} {call : CallE}
theorem clear_get {F : Fr} (hf : Okf F) : ∀ {cs : List Nat}, (∀ c ∈ cs, c < F.nt) → Okf (F.clear cs) ∧ ∀ j v, j < F.nt → getR (F.clear cs).T j = some v → j ∉ cs ∧ getR F.T j = some v
  | [], _ => ⟨hf, fun j v _ hv => ⟨List.not_mem_nil, hv⟩⟩
  | c :: cs, hc => by
    obtain ⟨h1, h2⟩ := clear_get hf (cs := cs) fun x hx => hc x (List.mem_cons_of_mem _ hx)
    obtain ⟨d, hfu, hn⟩ := h1
    have hcl := hc c (List.mem_cons_self ..)
    have hn' : F.nt ≤ 2 ^ d := hn
    refine ⟨⟨d, full_putN d _ c hfu, hn⟩, fun j v hj hv => ?_⟩
    have hv1 : getR (putR (F.clear cs).T c .nil) j = some v := hv
    by_cases hcj : c = j
    · subst hcj
      rw [getR_put_nil d _ _ hfu] at hv1
      cases hv1
    · have hv2 := getR_putN d _ c j v hfu (Nat.lt_of_lt_of_le hcl hn') (Nat.lt_of_lt_of_le hj hn') hv1
      obtain ⟨g1, g2⟩ := h2 j v hj hv2
      exact ⟨fun hm => by
        rcases List.mem_cons.1 hm with h3 | h3
        · exact hcj h3.symm
        · exact g1 h3, g2⟩
/-- a row that reads the same -/
theorem ok_withS {y : RO} {cs ds : List Seg} {b : Nat} {ob : Option Obj} (ht : trS e cs = trS e ds) (ho : RO.ok e b ob (y.withS cs)) : RO.ok e b ob (y.withS ds) := by
  have hl : lenS cs = lenS ds := by rw [← trS_len e, ht, trS_len]
  cases y with
  | cells c t =>
    obtain ⟨fr, h1, h2⟩ := ho
    exact ⟨fr, by rw [← ht]; exact h1, by rw [← hl]; exact h2⟩
  | row c t sz =>
    obtain ⟨sp, fr, h1, h2, h3⟩ := ho
    exact ⟨sp, fr, by rw [← ht]; exact h1, by rw [← hl]; exact h2, by rw [← hl]; exact h3⟩
  | map es c => exact ho
  | lop L => exact ho
  | dfr => exact ho
  | itr m s q l => exact ho
noncomputable def fillG (c0 : Nat) : CodeE := fun F h => match opd F (.tmp 2), opd F (.tmp 3), Nat.ble 20 F.nt with
  | some (.sl b 0 n _), some (.lit (.int .i64 (.ofNat 0))), true => match h.at? b with
    | some y => match y.segs with
      | some ([.byt 0 m], _) => match Nat.beq m n, Nat.ble n 1000000000 with
        | true, true => some (.exit 0, F.clear filT, h.put b (y.withS [.rep (.lit (.int .u8 (.ofNat c0))) n]))
        | _, _ => none
      | _ => none
    | none => none
  | _, _, _ => none
theorem fillG_ok (S : ∀ call, CallOk P call → Snd P Ty call) (hc : CallOk P call) (hm : P.follows .mixedOrders = true) {c : Code} {ts tu ti el : TypeId} {c0 : Nat} (hf : FillB c ts tu ti (.int .u8 (.ofNat c0))) (hts : undE Ty ts = some (.slice el)) (hel : szE Ty el = some 1) (htu : szE Ty tu = some 1) :
    CodeOk P B w0 (.loop c) (fillG c0) := by
  intro F F' e h h' a w x Q r f hv hQ
  unfold fillG at hv
  split at hv
  · rename_i b n cp hs hi h20
    split at hv
    · rename_i y hb
      split at hv
      · rename_i m ty hcs
        split at hv
        · rename_i hmn hb9
          injection hv with hv
          injection hv with e1 e2; injection e2 with e2 e3; subst e1 e2 e3
          obtain rfl := Nat.eq_of_beq_eq_true hmn
          have hb9 := Nat.le_of_ble_eq_true hb9
          have h20 := Nat.le_of_ble_eq_true h20
          have hok : Okf F := f.fullT
          have htr0 : ∀ e, trS e [.byt 0 m] = rowAt (.int .u8 (.ofNat c0)) 0 m := fun e => by
            simp only [trS, Seg.tr, List.append_nil, rowAt, List.replicate_zero, List.nil_append, Nat.sub_zero]
            unfold bytV
            refine List.eq_replicate_iff.2 ⟨by simp, fun v hv => ?_⟩
            obtain ⟨i, _, rfl⟩ := List.mem_map.1 hv
            simp [byV]
          obtain ⟨F2, h2, cs2, hrun, hag, hnx, hoth, hb2, htr⟩ := fill_all (Ty := Ty) (call := call) (lf := m + 1) hf hts hel htu h20 hb9 hs hcs m 0 F h [.byt 0 m] (m + 1) (by omega) (by omega) (Fag.refl hok) hi rfl (fun _ _ => rfl) (by rw [withS_self hcs]; exact hb) htr0
          have hcode : evCode Ty call (m + 1) (.loop c) F h = some (.exit 0, F2, h2) := hrun
          refine evCode_run (lf := m + 1) (S call hc) hc hm (.loop c) r f hcode fun e1 w1 a1 hx r1 f1 hn1 hro => ?_
          have hbs := at_small hb
          have htT : ∀ t ∈ filT, t < F.nt := fun t ht => Nat.lt_of_lt_of_le (by
            have : ∀ t ∈ filT, t < 20 := by decide
            exact this t ht) h20
          obtain ⟨hcok, hcget⟩ := clear_get hok htT
          refine hQ e1 w1 a1 hx ⟨r1.below, fun j o hj => ?_, fun i j x1 x2 hi1 hj1 hij => ?_, r1.env⟩ ⟨?_, hcok, fun i v hi1 hv1 => ?_, ?_, ?_, ?_⟩ (Nat.le_refl _) rfl
          · by_cases hjb : b = j
            · subst hjb
              rw [put_same _ hbs] at hj
              injection hj with hj
              subst hj
              obtain ⟨k1, k2, k3, _⟩ := r1.obj b _ hb2
              refine ⟨by show b < h.nx; rw [← hnx]; exact k1, k2, ok_withS ?_ k3, ?_⟩
              · rw [htr]
                simp [rowAt, trS, Seg.tr, RV.tr]
              · cases y <;> first | exact ⟨trivial, trivial⟩ | (cases hcs; done)
            · rw [put_other _ hbs hjb] at hj
              obtain ⟨k1, k2, k3, k4⟩ := r1.obj j o (by rw [hoth j (Ne.symm hjb)]; exact hj)
              exact ⟨by show j < h.nx; rw [← hnx]; exact k1, k2, k3, by show RO.lt h.nx o; rw [← hnx]; exact k4⟩
          · have g : ∀ i z, (h.put b (y.withS [.rep (.lit (.int .u8 (.ofNat c0))) m])).at? i = some z → ∃ z', h2.at? i = some z' := fun i z hz => by
              by_cases hib : b = i
              · subst hib; exact ⟨_, hb2⟩
              · rw [put_other _ hbs hib] at hz
                exact ⟨z, by rw [hoth i (Ne.symm hib)]; exact hz⟩
            obtain ⟨z1, hz1⟩ := g i x1 hi1
            obtain ⟨z2, hz2⟩ := g j x2 hj1
            exact r1.inj i j z1 z2 hz1 hz2 hij
          · show a1.tmps.size = F.nt
            rw [f1.size, hag.nt]
          · have hi1 : i < F.nt := hi1
            obtain ⟨g1, g2⟩ := hcget i v hi1 hv1
            have g3 := hag.at_ i hi1 g1
            rw [opd_tmp (by rw [hag.nt]; exact hi1), opd_tmp hi1, g2] at g3
            obtain ⟨k1, k2⟩ := f1.tmp i v (by rw [hag.nt]; exact hi1) g3
            exact ⟨k1, by show RV.lt h.nx v; rw [← hnx]; exact k2⟩
          · show a1.defers = F.D.map (trD e1)
            rw [f1.defers, hag.D]
          · intro d hd
            show Dfr.lt h.nx d
            rw [← hnx]
            exact f1.dlt d (by rw [hag.D]; exact hd)
          · intro b2 hb2
            show b2 < h.nx
            rw [← hnx]
            exact f1.rlt b2 (by rw [hag.ro]; exact hb2)
        · cases hv
      · cases hv
    · cases hv
  · cases hv
end
end Go.Proofs.YtlfljoeafpimpaaGreatDoor
namespace Go.Proofs.YtlfljoeafpimpaaGreatDoor
open Go.RowKit

/-- all loops (the outermost ones) are such -/
def LoopsA (p : Code → Prop) : Code → Prop
  | .seq a b => LoopsA p a ∧ LoopsA p b
  | .cond _ a b => LoopsA p a ∧ LoopsA p b
  | .block _ a => LoopsA p a
  | .scope a => LoopsA p a
  | .loop c => p c
  | _ => True
noncomputable def evCodeF (Ty : Tr TypeInfo) (call : CallE) (lf : Nat) (pt : PlT) (G : CodeE) (c : Code) : CodeE :=
  Code.rec (motive := fun _ => CodeE) (evCodeP Ty call lf pt .skip) (fun id ops d => evCodeP Ty call lf pt (.region id ops d))
    (fun _ _ a b F h => thenE b (a F h))
    (fun c _ _ a b F h => condE F h (opd F c) a b)
    (fun i _ b F h => blockE i (b F h))
    (fun _ _ => G)
    (fun g ps asg body _ _ => evCodeP Ty call lf pt (.rangeFunc g ps asg body))
    (fun i => evCodeP Ty call lf pt (.exit i))
    (fun _ b F h => b F h)
    (fun l => evCodeP Ty call lf pt (.label l))
    (fun l => evCodeP Ty call lf pt (.goto l))
    (evCodeP Ty call lf pt .ret)
    (fun s => evCodeP Ty call lf pt (.refuse s)) c
noncomputable def runF (Ty : Tr TypeInfo) (dno : FuncId → Bool) (call : CallE) (lf : Nat) (pt : PlT) (G : CodeE) (fn : Func) : OrcE := fun xs h => match fn.body with
  | some c => match Nat.ble xs.length fn.ntmps, chkC Ty pt c with
    | true, true => finE Ty dno call.df fn.results.toList (evCodeF Ty call lf pt G c ⟨fn.ntmps, argsT xs 0 (fullR (.lit undef) (Nat.log2 fn.ntmps + 1)), [], none⟩ h)
    | _, _ => none
  | none => none
section
variable {P : Program} {Ty : Tr TypeInfo} {B : Nat → Prop} {w0 : World} {call : CallE} {lf : Nat} {dno : FuncId → Bool}
theorem evCodeF_run (S : Snd P Ty call) (hc : CallOk P call) (hmo : P.follows .mixedOrders = true) {pt : PlT} {G : CodeE} : ∀ {c : Code}, LoopsA (fun x => CodeOk P B w0 (.loop x) G) c → chkC Ty pt c = true → CodeOk P B w0 c (evCodeF Ty call lf pt G c)
  | .skip, hL, hk => evCodeP_run (lf := lf) S hc hmo hk
  | .region _ _ _, hL, hk => evCodeP_run (lf := lf) S hc hmo hk
  | .seq x y, hL, hk => by
    have h1 : (chkC Ty pt x && chkC Ty pt y) = true := hk
    rw [Bool.and_eq_true] at h1
    exact fun _ _ _ _ _ _ _ _ _ r f hv hQ => wpIn_seq (then_ok (evCodeF_run S hc hmo hL.1 h1.1) r f hv hQ fun r1 f1 hv1 hQ1 hfe => by rw [← hfe]; exact evCodeF_run S hc hmo hL.2 h1.2 r1 f1 hv1 hQ1)
  | .cond c x y, hL, hk => by
    have h1 : (chkC Ty pt x && chkC Ty pt y) = true := hk
    rw [Bool.and_eq_true] at h1
    intro F F' e h h' a w z Q r f hv hQ
    replace hv : condE F h (opd F c) (evCodeF Ty call lf pt G x) (evCodeF Ty call lf pt G y) = some (z, F', h') := hv
    unfold condE at hv
    split at hv
    · rename_i hc'
      exact wpIn_cond_true (opd_run f hc').1 (evCodeF_run S hc hmo hL.1 h1.1 r f hv hQ)
    · rename_i hc'
      exact wpIn_cond_false (opd_run f hc').1 (evCodeF_run S hc hmo hL.2 h1.2 r f hv hQ)
    · cases hv
  | .block i c, hL, hk => by
    have h1 : chkC Ty pt c = true := hk
    intro F F' e h h' a w z Q r f hv hQ
    replace hv : blockE i (evCodeF Ty call lf pt G c F h) = some (z, F', h') := hv
    refine wpIn_block ?_
    unfold blockE at hv
    split at hv
    · rename_i j F1 h1' hz
      split at hv
      · rename_i hj
        replace hv := Option.some.inj hv
        injection hv with h1 h2; injection h2 with h2 h3
        subst h1 h2 h3
        refine evCodeF_run S hc hmo (show LoopsA _ c from hL) (by assumption) r f hz fun e1 w1 a1 hx r1 f1 hn hr => ?_
        show if j = i then _ else _
        rw [if_pos (Nat.eq_of_beq_eq_true hj)]
        exact hQ e1 w1 a1 hx r1 f1 hn hr
      · rename_i hj
        replace hv := Option.some.inj hv
        injection hv with h1 h2; injection h2 with h2 h3
        subst h1 h2 h3
        refine evCodeF_run S hc hmo (show LoopsA _ c from hL) (by assumption) r f hz fun e1 w1 a1 hx r1 f1 hn hr => ?_
        show if j = i then _ else _
        rw [if_neg (Nat.ne_of_beq_eq_false hj)]
        exact hQ e1 w1 a1 hx r1 f1 hn hr
    · rename_i hz
      refine evCodeF_run S hc hmo (show LoopsA _ c from hL) h1 r f hv fun e1 w1 a1 hx r1 f1 hn hr => ?_
      have := hQ e1 w1 a1 hx r1 f1 hn hr
      cases z with
      | normal => exact this
      | exit j => exact (hz _ _ _ hv).elim
      | ret => exact this
  | .loop c, hL, hk => hL
  | .rangeFunc _ _ _ _, hL, hk => evCodeP_run (lf := lf) S hc hmo hk
  | .exit _, hL, hk => evCodeP_run (lf := lf) S hc hmo hk
  | .scope c, hL, hk => by
    have h1 : chkC Ty pt c = true := hk
    intro F F' e h h' a w z Q r f hv hQ
    refine wpIn_scope_straight (evCodeF_run S hc hmo (show LoopsA _ c from hL) h1 r f hv fun e1 w1 a1 hx r1 f1 hn hr => ?_)
    have := hQ e1 w1 a1 hx r1 f1 hn hr
    cases z <;> exact this
  | .label _, hL, hk => evCodeP_run (lf := lf) S hc hmo hk
  | .goto _, hL, hk => evCodeP_run (lf := lf) S hc hmo hk
  | .ret, hL, hk => evCodeP_run (lf := lf) S hc hmo hk
  | .refuse _, hL, hk => evCodeP_run (lf := lf) S hc hmo hk
theorem runF_run (K : TyOk P Ty) (S : Snd P Ty call) (hc : CallOk P call) (hm : P.follows .mixedOrders = true) (hD : ∀ g, dno g = true → NoopD P g) {pt : PlT} {G : CodeE} {f : FuncId} {fn : Func} (hf : P.funcs[f]? = some fn) (hL : ∀ c, fn.body = some c → LoopsA (fun x => CodeOk P B w0 (.loop x) G) c) {xs : List RV} {e : Nv} {h h' : Hp} {v : RV} {w : World}
    (r : RepH B w0 e h w) (hl : ltL h.nx xs) (hv : runF Ty dno call lf pt G fn xs h = some (v, h')) : Calls P f (trL e xs).toArray w (Gives B w0 e h v h') := by
  unfold runF at hv
  split at hv
  · rename_i c hb
    split at hv
    · rename_i hn hchk
      unfold finE at hv
      split at hv
      · cases hv
      · rename_i x F1 h1 hz hne
        split at hv
        · rename_i h2 hdef
          have key : ∀ (vs : List RV) (u : RV), resE Ty F1 h2 fn.results.toList = some vs → some (u, h2) = some (v, h') →
              (∀ e1, RV.tr e1 u = oneV (trL e1 vs)) → (∀ n, ltL n vs → RV.lt n u) → Calls P f (trL e xs).toArray w (Gives B w0 e h v h') := by
            intro vs u hres hu htr hlt
            injection hu with hu
            injection hu with e1 e2; subst e1 e2
            refine calls_rd (rr := none) (n := 0) (callsIn_of_wp_marks hf hb trivial (evCodeF_run S hc hm (hL c hb) hchk r (start_frame hl (Nat.le_of_ble_eq_true hn)) hne fun e1 w1 a1 hx r1 f1 hn1 _ => ?_))
            have hleave : LeavesInM (rd none) 0 P fn a1.tmps (Gives B w0 e h u h2) a1.defers .returning w1 := by
              rw [f1.defers]
              refine evDef_run hc hD F1.D r1 f1.dlt hdef fun e2 w2 hx2 r2 hn2 => ?_
              obtain ⟨hr1, hr2⟩ := resE_run (P := P) K r2 (f1.ext hx2 hn2) hres
              have hrr := results_run hr1
              rw [← htr e2] at hrr
              exact ⟨_, hrr, e2, hx.trans hx2 hn1, r2, Nat.le_trans hn1 hn2, hlt _ hr2, rfl⟩
            cases x with
            | exit i => exact (hz i rfl).elim
            | normal => exact hleave
            | ret => exact hleave
          split at hv
          · rename_i u hres
            exact key [u] u hres hv (fun _ => rfl) fun _ h => h.1
          · rename_i vs hno hres
            refine key vs (.tup vs) hres hv (fun e1 => ?_) fun _ h => h
            match vs, hno with
            | [], _ => rfl
            | [z], hno => exact (hno z rfl).elim
            | _ :: _ :: _, _ => rfl
          · cases hv
        · cases hv
      · cases hv
    · cases hv
  · cases hv
end
end Go.Proofs.YtlfljoeafpimpaaGreatDoor
