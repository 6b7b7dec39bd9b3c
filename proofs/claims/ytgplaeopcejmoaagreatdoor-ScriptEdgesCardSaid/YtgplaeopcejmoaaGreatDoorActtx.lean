/- The walk of ActText. -/
import Derived.Test.YtgplaeopcejmoaaGreatDoorMayact
import Derived.Test.YtgplaeopcejmoaaGreatDoorTella
import Derived.Deep.DeepCutAuto
namespace Go.Proofs.YtgplaeopcejmoaaGreatDoor
open Go.RowKit Go.Shelf

def actCells (a : Ar) (pv : Value) : List Value := [.int .i64 a.kind, .int .i64 a.node, .int .i64 a.source, .int .i64 a.n, .int .i64 a.op.kind, .int .u64 (a.op.n : Int), .string a.op.key, .string a.op.til, .string a.op.value, .int .i64 a.op.level, .int .u64 (a.op.lsn : Int), pv]
def actName (k : Int) : ByteArray := if 1 ≤ k then (actNames[(k - 1).toNat]?).getD ⟨#[]⟩ else ⟨#[]⟩
def addA (m f : Int) (xs : List Int) (l : List ByteArray) : List ByteArray := if hasF m f then l ++ xs.map ito else l
def actWords (a : Ar) (m : Int) : List ByteArray := addA m 16 a.picks (addF m 8 (opText a.op) (addA m 4 [a.n] (addA m 2 [a.source] (addA m 1 [a.node] [actName a.kind]))))
def actText (a : Ar) : ByteArray := joinS (actWords a ((getI ofActL a.kind).getD 0))
def actTextR (a : Ar) : Value := if mayAct a then .tuple #[.string (actText a), .int .i64 0] else .tuple #[.string ⟨#[]⟩, .int .i64 2]

theorem actNames_x (w : World) : Calls Tryz.prog 58 #[] w fun e w' => ∃ g, e = .returned (.slice (some ⟨g, 0, none⟩) 12 12) ∧ Blk w' g 9 (actNames.map Value.string) ∧ Below w.heap.size w w' ∧ w.heap.size ≤ g :=
  (actNames_any w).mono fun _ _ ⟨he, hw⟩ => ⟨_, he, by rw [hw]; exact Blk.new w 9 _, by rw [hw]; exact (Below.refl _ _).alloc (Nat.le_refl _) _, Nat.le_refl _⟩
theorem actName_at {k : Int} (h1 : 1 ≤ k) (h2 : k ≤ 12) : (actNames.map Value.string)[(k - 1).toNat]? = some (.string (actName k)) := by
  unfold actName
  rw [if_pos h1]
  have hk : k = 1 ∨ k = 2 ∨ k = 3 ∨ k = 4 ∨ k = 5 ∨ k = 6 ∨ k = 7 ∨ k = 8 ∨ k = 9 ∨ k = 10 ∨ k = 11 ∨ k = 12 := by omega
  rcases hk with rfl | rfl | rfl | rfl | rfl | rfl | rfl | rfl | rfl | rfl | rfl | rfl <;> rfl
theorem actName_size (k : Int) : (actName k).size ≤ 10 := by
  unfold actName
  split
  · by_cases h2 : k ≤ 12
    · have hk : k = 1 ∨ k = 2 ∨ k = 3 ∨ k = 4 ∨ k = 5 ∨ k = 6 ∨ k = 7 ∨ k = 8 ∨ k = 9 ∨ k = 10 ∨ k = 11 ∨ k = 12 := by omega
      rcases hk with rfl | rfl | rfl | rfl | rfl | rfl | rfl | rfl | rfl | rfl | rfl | rfl <;> decide
    · rw [List.getElem?_eq_none (by simp [actNames]; omega)]
      decide
  · decide
theorem getI_act {k m : Int} (h : getI ofActL k = some m) : 1 ≤ k ∧ k ≤ 12 := by
  by_cases hk : k < 1 ∨ 12 < k
  · rw [getI_none hk] at h; cases h
  · omega
theorem ownS_row {W : World} {base bs : Nat} {x : ByteArray} (h : Blk W bs 9 [.string x]) (hb : base ≤ bs) : OwnS W base (.slice (some ⟨bs, 0, none⟩) 1 1) [x] :=
  ⟨rfl, .inr ⟨bs, 1, #[.string x], rfl, hb, h, Nat.le_refl _, by simp [maxLen], rfl, rfl⟩⟩

/-- what stands ahead of the words' cell -/
structure AfP (B : Nat) (w0 w : World) (T : TypeId) (C : List Value) (m : Int) (nb : Nat) : Prop where
  base : B = w0.heap.size + 1
  below : Below w0.heap.size w0 w
  box : Blk w w0.heap.size T C
  nam : Blk w nb 3 [.int .i64 m]
  nbB : w0.heap.size < nb
theorem AfP.next {B : Nat} {w0 w w' : World} {T : TypeId} {C : List Value} {m : Int} {nb : Nat} (h : AfP B w0 w T C m nb) (hb : Below w.heap.size w w') : AfP B w0 w' T C m nb :=
  ⟨h.base, h.below.trans (hb.mono h.below.size), h.box.below hb h.box.lt, h.nam.below hb h.nam.lt, h.nbB⟩
theorem AfP.alloc {B : Nat} {w0 w : World} {T : TypeId} {C : List Value} {m : Int} {nb : Nat} (h : AfP B w0 w T C m nb) (x : Obj) : AfP B w0 (w.alloc x) T C m nb := h.next ((Below.refl _ _).alloc (Nat.le_refl _) _)
theorem AfP.set {B : Nat} {w0 w : World} {T : TypeId} {C : List Value} {m : Int} {nb sb : Nat} (h : AfP B w0 w T C m nb) {u : Value} (hS : Blk w sb 48 [u]) (hsb : w0.heap.size < sb) (v : Value) : AfP B w0 (w.setCell ⟨sb, 0, none⟩ v) T C m nb := by
  have n1 : nb ≠ sb := by
    intro e
    have h1 := h.nam
    rw [e] at h1
    have := hS.symm.trans h1
    simp at this
  exact ⟨h.base, h.below.setCell (p := ⟨sb, 0, none⟩) (Nat.le_of_lt hsb) v, h.box.setOther (by omega) _ _, h.nam.setOther n1 _ _, h.nbB⟩
theorem AfP.af {B : Nat} {w0 w : World} {T : TypeId} {C : List Value} {m : Int} {nb sb : Nat} {l : List ByteArray} (h : AfP B w0 w T C m nb) {v : Value} (hS : Blk w sb 48 [v]) (ho : OwnS w B v l) (hsb : w0.heap.size < sb) : Af B w0 w T C m nb sb l :=
  ⟨h.base, h.below, h.box, h.nam, ⟨v, hS, ho⟩, h.nbB, hsb⟩

theorem mayact_v (a : Ar) (pa : Option Addr) (pc : Nat) (w : World) : Calls Tryz.prog 27 #[.agg (actCells a (.slice pa a.picks.length pc)).toArray] w fun e w' => e = .returned (.bool (mayAct a)) ∧ Below w.heap.size w w' :=
  mayact_any a.kind a.node a.source a.n a.op.kind a.op.n a.op.key a.op.til a.op.value a.op.level a.op.lsn a.picks pa pc w

theorem infoAct : (Tryz.prog.info? 39).map (·.size) = some 12 := by kernel_rfl
theorem AfP.wayA {B : Nat} {w0 w : World} {T : TypeId} {C : List Value} {m : Int} {nb : Nat} (h : AfP B w0 w T C m nb) (hlt : w0.heap.size < w.heap.size) (x : ByteArray) :
    Af B w0 ((w.alloc (.cells #[.string x] 9)).alloc (.cells #[.slice (some ⟨w.heap.size, 0, none⟩) 1 1] 48)) T C m nb (w.heap.size + 1) [x] := by
  have h1 := (Blk.new w 9 [.string x]).alloc (.cells #[.slice (some ⟨w.heap.size, 0, none⟩) 1 1] 48)
  have h2 := Blk.new (w.alloc (.cells #[.string x] 9)) 48 [.slice (some ⟨w.heap.size, 0, none⟩) 1 1]
  rw [World.size_alloc] at h2
  exact ((h.alloc _).alloc _).af h2 (ownS_row h1 (by have := h.base; omega)) (by omega)
theorem AfP.wayB {B : Nat} {w0 w : World} {T : TypeId} {C : List Value} {m : Int} {nb : Nat} (h : AfP B w0 w T C m nb) (hlt : w0.heap.size < w.heap.size) (x : ByteArray) :
    Af B w0 ((w.alloc (.cells #[.slice (some ⟨w.heap.size + 1, 0, none⟩) 1 1] 48)).alloc (.cells #[.string x] 9)) T C m nb w.heap.size [x] := by
  have h1 := (Blk.new w 48 [.slice (some ⟨w.heap.size + 1, 0, none⟩) 1 1]).alloc (.cells #[.string x] 9)
  have h2 := Blk.new (w.alloc (.cells #[.slice (some ⟨w.heap.size + 1, 0, none⟩) 1 1] 48)) 9 [.string x]
  rw [World.size_alloc] at h2
  exact ((h.alloc _).alloc _).af h1 (ownS_row h2 (by have := h.base; omega)) (by omega)
theorem AfP.wayC {B : Nat} {w0 w : World} {T : TypeId} {C : List Value} {m : Int} {nb sb : Nat} (h : AfP B w0 w T C m nb) (hlt : w0.heap.size < w.heap.size) {u : Value} (hS : Blk w sb 48 [u]) (hsb : w0.heap.size < sb) (x : ByteArray) :
    Af B w0 ((w.setCell ⟨sb, 0, none⟩ (.slice (some ⟨w.heap.size, 0, none⟩) 1 1)).alloc (.cells #[.string x] 9)) T C m nb sb [x] := by
  have e : (w.setCell ⟨sb, 0, none⟩ (.slice (some ⟨w.heap.size, 0, none⟩) 1 1)).heap.size = w.heap.size := by
    show (w.heap.modify _ _).size = _
    rw [Array.size_modify]
  have h1 := hS.setCell 0 (.slice (some ⟨w.heap.size, 0, none⟩) 1 1) (by simp)
  have h2 := Blk.new (w.setCell ⟨sb, 0, none⟩ (.slice (some ⟨w.heap.size, 0, none⟩) 1 1)) 9 [.string x]
  rw [e] at h2
  exact ((h.set hS hsb _).alloc _).af (h1.alloc _) (ownS_row h2 (by have := h.base; omega)) hsb
theorem addA_le {l : List ByteArray} {c : Nat} (h : l.length ≤ c) (m f : Int) (xs : List Int) : (addA m f xs l).length ≤ c + xs.length := by
  unfold addA; split
  · simp; omega
  · omega
theorem addA_ne {l : List ByteArray} (h : l ≠ []) (m f : Int) (xs : List Int) : addA m f xs l ≠ [] := by
  unfold addA; split
  · simp [h]
  · exact h
theorem tot_ints : ∀ (xs : List Int), (∀ x ∈ xs, -9223372036854775808 ≤ x ∧ x ≤ 9223372036854775807) → tot (xs.map ito) ≤ 21 * xs.length
  | [], _ => by simp [tot, Lib.lens]
  | x :: r, h => by
    have h1 := ito_size (h x (.head _)).1 (h x (.head _)).2
    have h2 := tot_ints r (fun y hy => h y (.tail _ hy))
    have h3 := tot_app [ito x] (r.map ito)
    rw [tot_one] at h3
    rw [List.map_cons, show ito x :: r.map ito = [ito x] ++ r.map ito from rfl, h3]
    simp only [List.length_cons]; omega
theorem addA_totle {l : List ByteArray} {c : Nat} (h : tot l ≤ c) (m f : Int) {xs : List Int} (hx : ∀ x ∈ xs, -9223372036854775808 ≤ x ∧ x ≤ 9223372036854775807) : tot (addA m f xs l) ≤ c + 21 * xs.length := by
  have := tot_ints xs hx
  unfold addA; split
  · rw [tot_app]; omega
  · omega
theorem opText_size {o : Opr} (hn : o.n < 18446744073709551616) (hlsn : o.lsn < 18446744073709551616) (hl0 : -9223372036854775808 ≤ o.level) (hl1 : o.level ≤ 9223372036854775807) (hm : mayOp o = true) : (opText o).size ≤ 10000000 := by
  obtain ⟨m, hg, hw⟩ := getI_of_may hm
  have hsk : o.key.size ≤ 1000000 ∧ o.til.size ≤ 1000000 ∧ o.value.size ≤ 1000000 := by
    simp only [mayW, Bool.and_eq_true, decide_eq_true_eq] at hw
    omega
  have hnm : (opName o.kind).size ≤ 10 := by
    unfold opName
    split
    · by_cases h2 : o.kind ≤ 12
      · have hk : o.kind = 1 ∨ o.kind = 2 ∨ o.kind = 3 ∨ o.kind = 4 ∨ o.kind = 5 ∨ o.kind = 6 ∨ o.kind = 7 ∨ o.kind = 8 ∨ o.kind = 9 ∨ o.kind = 10 ∨ o.kind = 11 ∨ o.kind = 12 := by omega
        rcases hk with hk | hk | hk | hk | hk | hk | hk | hk | hk | hk | hk | hk <;> rw [hk] <;> decide
      · rw [List.getElem?_eq_none (by simp [opNames]; omega)]
        decide
    · decide
  have h0 : tot [opName o.kind] ≤ 10 := by rw [tot_one]; exact hnm
  have h1 := addF_totle (addF_totle (addF_totle (addF_totle (addF_totle (addF_totle h0 m 1 (dec_size hn)) m 2 (dec_size hlsn)) m 4 (wtx_size hsk.1)) m 8 (wtx_size hsk.2.1)) m 16 (wtx_size hsk.2.2)) m 32 (ito_size hl0 hl1)
  have hl := addF_le (addF_le (addF_le (addF_le (addF_le (addF_le (Nat.le_refl [opName o.kind].length) m 1 (dec o.n)) m 2 (dec o.lsn)) m 4 (wtx o.key)) m 8 (wtx o.til)) m 16 (wtx o.value)) m 32 (ito o.level)
  have hj := join_len (opWords o m) [32]
  have e : (opText o).size = (Lib.join ((opWords o m).map fun x => x.data.toList) [32]).length := by
    unfold opText joinS
    rw [hg]
    show (List.toArray _).size = _
    rw [List.size_toArray]
    rfl
  rw [e]
  unfold opWords at hj ⊢
  simp only [List.length_cons, List.length_nil] at hj hl
  omega
theorem tell1_any (B : Nat) (w0 w : World) (T : TypeId) (hT : T ≠ 9) (C : List Value) (m : Int) (nb sb : Nat) (l : List ByteArray) (f x : Int) (HA : Af B w0 w T C m nb sb l)
    (hr : -9223372036854775808 ≤ x ∧ x ≤ 9223372036854775807) (hl : l.length ≤ 10000) (henv : Env w0) :
    Calls Tryz.prog 59 #[.int .i64 f, .slice (some ⟨w.heap.size, 0, none⟩) 1 1, .pointer (some ⟨nb, 0, none⟩), .pointer (some ⟨sb, 0, none⟩)] (w.alloc (.cells #[.int .i64 x] 3)) fun e w' => (∃ r, e = .returned r) ∧ Af B w0 w' T C m nb sb (addA m f [x] l) :=
  tella_any B w0 _ T hT C m nb sb l f _ 1 [x] (HA.next ((Below.refl _ _).alloc (Nat.le_refl _) _))
    (fun _ => ⟨w.heap.size, 0, rfl, .inr ⟨_, Blk.new w 3 [.int .i64 x]⟩, fun j y hy => by
      cases j with
      | zero => cases hy; exact (Blk.new w 3 [.int .i64 x]).cell 0
      | succ j => cases hy⟩)
    (fun y hy => by rw [List.mem_singleton.1 hy]; exact hr) (by simp; omega) henv
theorem tellp_any (B : Nat) (w0 w : World) (T : TypeId) (hT : T ≠ 9) (C : List Value) (m : Int) (nb sb : Nat) (l : List ByteArray) (f : Int) (pa : Option Addr) (pc : Nat) (ps : List Int) (HA : Af B w0 w T C m nb sb l) (hP : PicksAt B w pa ps)
    (hr : ∀ x ∈ ps, -9223372036854775808 ≤ x ∧ x ≤ 9223372036854775807) (hl : l.length + ps.length ≤ 50000) (henv : Env w0) :
    Calls Tryz.prog 59 #[.int .i64 f, .slice pa ps.length pc, .pointer (some ⟨nb, 0, none⟩), .pointer (some ⟨sb, 0, none⟩)] w fun e w' => (∃ r, e = .returned r) ∧ Af B w0 w' T C m nb sb (addA m f ps l) :=
  tella_any B w0 w T hT C m nb sb l f pa pc ps HA hP hr hl henv
theorem addA1_le {l : List ByteArray} {c : Nat} (h : l.length ≤ c) (m f x : Int) : (addA m f [x] l).length ≤ c + 1 := addA_le h m f [x]
theorem addA1_totle {l : List ByteArray} {c : Nat} (h : tot l ≤ c) (m f : Int) {x : Int} (hx : -9223372036854775808 ≤ x ∧ x ≤ 9223372036854775807) : tot (addA m f [x] l) ≤ c + 21 := addA_totle h m f (fun y hy => by rw [List.mem_singleton.1 hy]; exact hx)
theorem addF_yes {m f : Int} (h : hasF m f = true) (x : ByteArray) (l : List ByteArray) : addF m f x l = l ++ [x] := by unfold addF; rw [if_pos h]
theorem addF_no {m f : Int} (h : hasF m f = false) (x : ByteArray) (l : List ByteArray) : addF m f x l = l := by unfold addF; rw [h]; rfl
/-- a call without arguments as one step of a region that draws -/
theorem step_call0 {P : Program} {w : World} {ops : Array Oper} {o : Oper} {a : Act} {K : Act → World → Prop} {Q : Exit → Act → World → Prop} {E : Prop} (hgd : o.guard = none) (f : FuncId) (ts : Array TypeId)
    (ho : o.op = .call { callee := .value (.func f), args := #[], argTypes := ts }) (hent : ∀ args w, (callFunc f args).run P w = .ok (.enter f args) w) {R : Value → World → Prop}
    (hc : Calls P f #[] w fun e w' => ∃ v, e = .returned v ∧ R v w') (h : ∀ v w', R v w' → K (a.put o.dst v) w') : if Region.wanted o (yielded ops a.tmps) = true then Oper.wp P o a w K Q else E := by
  have hw : Region.wanted o (yielded ops a.tmps) = true := by simp [Region.wanted, hgd]
  rw [if_pos hw]
  have hr : (execOp a.eval o).run P w = .ok (.enter f #[]) w := by
    unfold execOp
    have hf : a.eval (.func f) = .func (.func f) #[] #[] := rfl
    simp [ho, resolve, invoke, hf, hent, Deferred.ofValue]
  unfold Oper.wp
  rw [hr, Oper.upon_enter]
  refine hc.mono fun e w' ⟨v, he, hR⟩ => ?_
  subst he
  exact h v w' hR
/-- the numbers that an act may hold -/
structure ActOk (a : Ar) : Prop where
  node : -9223372036854775808 ≤ a.node ∧ a.node ≤ 9223372036854775807
  source : -9223372036854775808 ≤ a.source ∧ a.source ≤ 9223372036854775807
  n : -9223372036854775808 ≤ a.n ∧ a.n ≤ 9223372036854775807
  picks : ∀ x ∈ a.picks, -9223372036854775808 ≤ x ∧ x ≤ 9223372036854775807
  opn : a.op.n < 18446744073709551616
  lsn : a.op.lsn < 18446744073709551616
  level : -9223372036854775808 ≤ a.op.level ∧ a.op.level ≤ 9223372036854775807

set_option maxRecDepth 100000 in
set_option maxHeartbeats 8000000 in
theorem acttext_any (a : Ar) (ha : ActOk a) (pa : Option Addr) (pc : Nat) (w : World) (hP : PicksAt w.heap.size w pa a.picks) (hPc : a.picks ≠ [] → ∃ g o, pa = some ⟨g, o, none⟩ ∧ g < w.heap.size) (henv : Env w) :
    Calls Tryz.prog 18 #[.agg (actCells a (.slice pa a.picks.length pc)).toArray] w fun e w' => e = .returned (actTextR a) ∧ Below w.heap.size w w' := by
  have hBox := Blk.new w 39 (actCells a (.slice pa a.picks.length pc))
  have hB0 : Below w.heap.size w (w.alloc (.cells (actCells a (.slice pa a.picks.length pc)).toArray 39)) := (Below.refl _ w).alloc (Nat.le_refl _) _
  obtain ⟨mo, hmo⟩ : ∃ mo, mayAct a = mo := ⟨_, rfl⟩
  unfold actTextR
  rw [hmo]
  have HM := Lib.hid hmo; clear hmo
  cases mo with
  | false =>
    go_enter Tryz.func18, Tryz.ntmps18
    go_wp2_with (first
      | (go_at_call 27; refine (mayact_v a pa pc _).mono ?_; rintro e w1 ⟨rfl, hb1⟩; rw [HM.out])
      | (refine wpList_load_row rfl 39 _ rfl w.heap.size rfl 39 _ (0, 0) _ hBox Tryz.underlying39 rfl infoAct ?_))
    go_ret2
    exact ⟨rfl, hB0.trans (hb1.mono (by simp))⟩
  | true =>
    obtain ⟨m, hg, hm⟩ : ∃ m, getI ofActL a.kind = some m ∧ mayA m a = true := by
      have := HM.out
      unfold mayAct at this
      cases hg : getI ofActL a.kind with
      | none => rw [hg] at this; cases this
      | some m => rw [hg] at this; exact ⟨m, rfl, this⟩
    have hk := getI_act hg
    have hwk : IntKind.i64.wrap (a.kind - 1) = a.kind - 1 := by rw [IntKind.wrap_i64]; omega
    have hv : ofActV a.kind = .tuple #[.int .i64 m, .bool true] := by unfold ofActV; rw [hg]; rfl
    have HG := Lib.hid hg; clear hg
    have HMA := Lib.hid hm; clear hm
    go_enter Tryz.func18, Tryz.ntmps18
    go_wp2_with (first
      | (go_at_call 27; refine (mayact_v a pa pc _).mono ?_; rintro e w1 ⟨rfl, hb1⟩; rw [HM.out]
         have hBx := hBox.below hb1 (by simp)
         have hb2 : Below w.heap.size w w1 := hB0.trans (hb1.mono (by simp))
         have hlt := hBx.lt
         have c0 : w1.cell? ⟨w.heap.size, 0, none⟩ = some (.int .i64 a.kind) := hBx.cell 0
         clear hBox)
      | (go_at_call 57; refine (ofAct_any a.kind _).mono ?_; rintro e w2 ⟨rfl, rfl⟩; rw [hv])
      | (refine wpList_load_row rfl 39 _ rfl w.heap.size rfl 39 _ (0, 0) _ hBox Tryz.underlying39 rfl infoAct ?_))
    have hP1 : AfP (w.heap.size + 1) w (w1.alloc (.cells #[.int .i64 m] 3)) 39 (actCells a (.slice pa a.picks.length pc)) m w1.heap.size :=
      ⟨rfl, hb2.alloc hb2.size _, hBx.alloc _, Blk.new w1 3 [.int .i64 m], hlt⟩
    obtain ⟨W, hW⟩ : ∃ W, w1.alloc (.cells #[.int .i64 m] 3) = W := ⟨_, rfl⟩
    rw [hW] at hP1
    have hWlt : w.heap.size < W.heap.size := hP1.box.lt
    have cW : W.cell? ⟨w.heap.size, 0, none⟩ = some (.int .i64 a.kind) := hP1.box.cell 0
    have HP1 := Lib.hid hP1; clear hP1
    rw [hW]
    clear hW hBx hb2 c0
    have hk12 : a.kind - 1 < 12 := by omega
    have hka : (a.kind - 1).toNat = a.kind.toNat - 1 := by omega
    have hcall : ∀ W, Calls Tryz.prog 58 #[] W fun e w' => ∃ v, e = .returned v ∧ (∃ g, v = .slice (some ⟨g, 0, none⟩) 12 12 ∧ Blk w' g 9 (actNames.map Value.string) ∧ Below W.heap.size W w' ∧ W.heap.size ≤ g) :=
      fun W => (actNames_x W).mono fun _ _ ⟨g, he, hr⟩ => ⟨_, he, g, rfl, hr⟩
    go_cut [6] from 19 to 25 (fun p wx => ∃ sb, p = .pointer (some ⟨sb, 0, none⟩) ∧ Af (w.heap.size + 1) w wx 39 (actCells a (.slice pa a.picks.length pc)) m w1.heap.size sb [actName a.kind])
    case first =>
      go_region_law (refine step_call0 rfl 58 _ rfl (enters_of Tryz.func58 (by kernel_rfl) rfl) (hcall _) ?_
                     rintro vn w3 ⟨gn, rfl, hBn, hb3, hgn⟩
                     try replace hb3 := below_undrew hb3
                     have hP3 : AfP (w.heap.size + 1) w w3 39 (actCells a (.slice pa a.picks.length pc)) m w1.heap.size := by
                       first
                       | exact HP1.out.next hb3
                       | exact (HP1.out.alloc _).next hb3
                     have c3 : w3.cell? ⟨w.heap.size, 0, none⟩ = some (.int .i64 a.kind) := hP3.box.cell 0
                     have hlt3 : w.heap.size < w3.heap.size := hP3.box.lt
                     have cn3 : w3.cell? ⟨gn, a.kind.toNat - 1, none⟩ = some (.string (actName a.kind)) := (hBn.cell _).trans (hka ▸ actName_at hk.1 hk.2)
                     have hgnl : gn < w3.heap.size := hBn.lt
                     try (have hN : Blk w3 W.heap.size 48 [.slice none 0 0] := (show Blk _ _ _ _ from (by have := Blk.new W 48 [.slice none 0 0]; simpa using this.below hb3 (by simp)))
                          have cN : w3.cell? ⟨W.heap.size, 0, none⟩ = some (.slice none 0 0) := hN.cell 0
                          have fN : w3.frozen? ⟨W.heap.size, 0, none⟩ = false := hN.frozen 0
                          have hNlt : W.heap.size < w3.heap.size := hN.lt
                          have HN1 := Lib.hid hN; clear hN)
                     have HP3 := Lib.hid hP3; clear hP3)
      all_goals
        go_wp2_with fail
        go_meet
        first
        | exact ⟨_, rfl, HP3.out.wayA hlt3 _⟩
        | exact ⟨_, rfl, HP3.out.wayB hlt3 _⟩
        | exact ⟨_, rfl, HP3.out.wayC hlt3 HN1.out hWlt _⟩
    case rest =>
      obtain ⟨sb, rfl, HA⟩ := hcut
      have hn1 : wc.cell? ⟨w.heap.size, 1, none⟩ = some (.int .i64 a.node) := HA.box.cell 1
      have hL : [actName a.kind].length ≤ 1 := Nat.le_refl _
      have hT : tot [actName a.kind] ≤ 10 := by rw [tot_one]; exact actName_size _
      have hE : [actName a.kind] ≠ [] := by simp
      clear cW hWlt hk12 hka hcall hwk
      have hpl : a.picks.length ≤ 512 := by
        have := HMA.out
        simp only [mayA, Bool.and_eq_true, decide_eq_true_eq] at this
        omega
      have hPk : ∀ {W : World}, Below w.heap.size w W → PicksAt (w.heap.size + 1) W pa a.picks := by
        intro W hb hne
        obtain ⟨g, o, h1, _, h3⟩ := hP hne
        obtain ⟨g', o', h1', hgl⟩ := hPc hne
        rw [h1] at h1'
        cases h1'
        exact ⟨g, o, h1, .inl (by omega), fun j x hx => (hb.cell (p := ⟨g, o + j, none⟩) hgl).trans (h3 j x hx)⟩
      obtain ⟨b8, hb8⟩ : ∃ b, hasF m 8 = b := ⟨_, rfl⟩
      have hbits : (bits .and .i64 m 8 != 0) = b8 := hb8
      cases b8
      · go_wp2_with (first
          | (go_at_call 59; ((with_reducible refine (tell1_any _ _ _ _ (by decide) _ _ _ _ _ 1 a.node HA ha.node (Nat.le_trans hL (by decide)) henv).mono ?_); rintro e wd ⟨⟨r, rfl⟩, HA⟩; replace hL := addA1_le hL m 1 a.node; replace hT := addA1_totle hT m 1 (x := a.node) ha.node; replace hE := addA_ne hE m 1 [a.node]; have c2 : wd.cell? ⟨w.heap.size, 2, none⟩ = some (.int .i64 a.source) := HA.box.cell 2))
          | (go_at_call 59; ((with_reducible refine (tell1_any _ _ _ _ (by decide) _ _ _ _ _ 2 a.source HA ha.source (Nat.le_trans hL (by decide)) henv).mono ?_); rintro e wd ⟨⟨r, rfl⟩, HA⟩; replace hL := addA1_le hL m 2 a.source; replace hT := addA1_totle hT m 2 (x := a.source) ha.source; replace hE := addA_ne hE m 2 [a.source]; have c3 : wd.cell? ⟨w.heap.size, 3, none⟩ = some (.int .i64 a.n) := HA.box.cell 3))
          | (go_at_call 59; ((with_reducible refine (tell1_any _ _ _ _ (by decide) _ _ _ _ _ 4 a.n HA ha.n (Nat.le_trans hL (by decide)) henv).mono ?_); rintro e wd ⟨⟨r, rfl⟩, HA⟩; replace hL := addA1_le hL m 4 a.n; replace hT := addA1_totle hT m 4 (x := a.n) ha.n; replace hE := addA_ne hE m 4 [a.n]; have cN : wd.cell? ⟨w1.heap.size, 0, none⟩ = some (.int .i64 m) := HA.nam.cell 0; have cp : wd.cell? ⟨w.heap.size, 11, none⟩ = some (.slice pa a.picks.length pc) := HA.box.cell 11))
          | (go_at_call 59; ((with_reducible refine (tellp_any _ _ _ _ (by decide) _ _ _ _ _ 16 pa pc a.picks HA (hPk HA.below) ha.picks (by omega) henv).mono ?_); rintro e wd ⟨⟨r, rfl⟩, HA⟩; replace hL := addA_le hL m 16 a.picks; replace hT := addA_totle hT m 16 (xs := a.picks) ha.picks; replace hE := addA_ne hE m 16 a.picks; obtain ⟨v2, hs2, ho2⟩ := HA.row; obtain ⟨gq, capq, rfl, _, _⟩ := ho2.form hE; have cc := hs2.cell 0))
          | (go_at_call 56; ((with_reducible refine (join_own ho2 (by omega) (by omega)).mono ?_); rintro e wd ⟨rfl, hbx⟩; replace HA := HA.next hbx; clear hbx)))
        go_ret2
        refine ⟨?_, HA.below⟩
        have ht : actText a = joinS (addA m 16 a.picks (addA m 4 [a.n] (addA m 2 [a.source] (addA m 1 [a.node] [actName a.kind])))) := by
          unfold actText actWords
          rw [HG.out]
          simp only [Option.getD_some, addF_no hb8]
        rw [ht]
        rfl
      · have hmo : mayOp a.op = true := by
          have := HMA.out
          simp only [mayA, hb8, Bool.not_true, Bool.false_or, Bool.and_eq_true] at this
          exact this.2
        have HMO := Lib.hid hmo; clear hmo
        go_wp2_with (first
          | (go_at_call 59; ((with_reducible refine (tell1_any _ _ _ _ (by decide) _ _ _ _ _ 1 a.node HA ha.node (Nat.le_trans hL (by decide)) henv).mono ?_); rintro e wd ⟨⟨r, rfl⟩, HA⟩; replace hL := addA1_le hL m 1 a.node; replace hT := addA1_totle hT m 1 (x := a.node) ha.node; replace hE := addA_ne hE m 1 [a.node]; have c2 : wd.cell? ⟨w.heap.size, 2, none⟩ = some (.int .i64 a.source) := HA.box.cell 2))
          | (go_at_call 59; ((with_reducible refine (tell1_any _ _ _ _ (by decide) _ _ _ _ _ 2 a.source HA ha.source (Nat.le_trans hL (by decide)) henv).mono ?_); rintro e wd ⟨⟨r, rfl⟩, HA⟩; replace hL := addA1_le hL m 2 a.source; replace hT := addA1_totle hT m 2 (x := a.source) ha.source; replace hE := addA_ne hE m 2 [a.source]; have c3 : wd.cell? ⟨w.heap.size, 3, none⟩ = some (.int .i64 a.n) := HA.box.cell 3))
          | (go_at_call 59; ((with_reducible refine (tell1_any _ _ _ _ (by decide) _ _ _ _ _ 4 a.n HA ha.n (Nat.le_trans hL (by decide)) henv).mono ?_); rintro e wd ⟨⟨r, rfl⟩, HA⟩; replace hL := addA1_le hL m 4 a.n; replace hT := addA1_totle hT m 4 (x := a.n) ha.n; replace hE := addA_ne hE m 4 [a.n]; have cN : wd.cell? ⟨w1.heap.size, 0, none⟩ = some (.int .i64 m) := HA.nam.cell 0; have q4 : wd.cell? ⟨w.heap.size, 4, none⟩ = some (.int .i64 a.op.kind) := HA.box.cell 4; have q5 : wd.cell? ⟨w.heap.size, 5, none⟩ = some (.int .u64 (a.op.n : Int)) := HA.box.cell 5; have q6 : wd.cell? ⟨w.heap.size, 6, none⟩ = some (.string a.op.key) := HA.box.cell 6; have q7 : wd.cell? ⟨w.heap.size, 7, none⟩ = some (.string a.op.til) := HA.box.cell 7; have q8 : wd.cell? ⟨w.heap.size, 8, none⟩ = some (.string a.op.value) := HA.box.cell 8; have q9 : wd.cell? ⟨w.heap.size, 9, none⟩ = some (.int .i64 a.op.level) := HA.box.cell 9; have q10 : wd.cell? ⟨w.heap.size, 10, none⟩ = some (.int .u64 (a.op.lsn : Int)) := HA.box.cell 10))
          | (go_at_call 17; ((refine (optext_any a.op ha.opn ha.lsn ha.level.1 ha.level.2 _ (henv.below HA.below)).mono ?_); rintro e wd ⟨rfl, hbo⟩; rw [show opTextR a.op = .tuple #[.string (opText a.op), .int .i64 0] from by unfold opTextR; rw [HMO.out]; rfl]; replace HA := HA.next hbo; clear hbo; obtain ⟨v, hs, ho⟩ := HA.row; have cs := hs.cell 0; have hbz : w.heap.size + 1 ≤ wd.heap.size := HA.box.lt))
          | (refine wpList_append_s rfl _ _ rfl (w.heap.size + 1) v _ ⟨wd.heap.size, 0, none⟩ 1 1 [opText a.op] rfl rfl (ho.alloc _) (Nat.le_trans hL (by decide)) (by simp; omega) rfl (by omega) (news_s wd [opText a.op]) ?_; intro v' w3 ho1 hg1; replace HA := HA.told (by decide) hs ho ho1 hg1; obtain ⟨g1, cap1, hv1, _, _⟩ := ho1.form (by simp); rw [List.length_append, List.length_singleton] at hv1; subst hv1; have hs1 : Blk w3 sb 48 [v] := (hs.alloc _).grown hg1 (own_ne ho hs (by intro cur e; injection e with _ e; exact absurd e (by decide))); have cs1 : w3.cell? ⟨sb, 0, none⟩ = some v := hs1.cell 0; have fs1 := hs1.frozen 0; replace hL := addF_le hL m 8 (opText a.op); replace hT := addF_totle hT m 8 (opText_size ha.opn ha.lsn ha.level.1 ha.level.2 HMO.out); replace hE := addF_ne hE m 8 (opText a.op); have HAx := HA; rw [← addF_yes hb8 (opText a.op)] at HA; have cp : (w3.setCell ⟨sb, 0, none⟩ _).cell? ⟨w.heap.size, 11, none⟩ = some (.slice pa a.picks.length pc) := HA.box.cell 11)
          | (go_at_call 59; ((with_reducible refine (tellp_any _ _ _ _ (by decide) _ _ _ _ _ 16 pa pc a.picks HA (hPk HA.below) ha.picks (by omega) henv).mono ?_); rintro e wd ⟨⟨r, rfl⟩, HA⟩; replace hL := addA_le hL m 16 a.picks; replace hT := addA_totle hT m 16 (xs := a.picks) ha.picks; replace hE := addA_ne hE m 16 a.picks; obtain ⟨v2, hs2, ho2⟩ := HA.row; obtain ⟨gq, capq, rfl, _, _⟩ := ho2.form hE; have cc := hs2.cell 0))
          | (go_at_call 56; ((with_reducible refine (join_own ho2 (by omega) (by omega)).mono ?_); rintro e wd ⟨rfl, hbx⟩; replace HA := HA.next hbx; clear hbx)))
        go_ret2
        refine ⟨?_, HA.below⟩
        have ht : actText a = joinS (addA m 16 a.picks (addF m 8 (opText a.op) (addA m 4 [a.n] (addA m 2 [a.source] (addA m 1 [a.node] [actName a.kind]))))) := by
          unfold actText actWords
          rw [HG.out]
          simp only [Option.getD_some]
        rw [ht]
        rfl
end Go.Proofs.YtgplaeopcejmoaaGreatDoor
