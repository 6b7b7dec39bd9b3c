/- The walk of the document's MaySetup. The walk of node.May at the members 2, 3, .. The walk of cluster.May: a setup that may be. -/
import Derived.Test.YtgplaeopcejmoaaGreatDoorByte
import Derived.Test.YtgplaeopcejmoaaGreatDoorRsame
import Derived.Test.YtgplaeopcejmoaaGreatDoorActofb
namespace Go.Proofs.YtgplaeopcejmoaaGreatDoor
open Go.RowKit

structure Sup where
  nodes : Int
  capacity : Int
  frames : Int
  quorum : Int
  delay : Int
def supCells (s : Sup) : List Value := [.int .i64 s.nodes, .int .i64 s.capacity, .int .i64 s.frames, .int .i64 s.quorum, .int .i64 s.delay]
def supV (s : Sup) : Value := .agg (supCells s).toArray
/-- may a setup be? -/
def maySet (s : Sup) : Bool := decide (2 ≤ s.nodes ∧ s.nodes ≤ 5 ∧ 1 ≤ s.capacity ∧ s.capacity ≤ 1048576 ∧ 4 ≤ s.frames ∧ s.frames ≤ 128 ∧ 0 ≤ s.quorum ∧ s.quorum < s.nodes ∧ 0 ≤ s.delay ∧ s.delay ≤ 100)
set_option maxRecDepth 100000 in
set_option maxHeartbeats 2000000 in
theorem refmayset_any (s : Sup) (w : World) : Calls Tryz.prog 38 #[supV s] w fun e w' => e = .returned (.bool (maySet s)) ∧ Below w.heap.size w w' := by
  have hB := Blk.new w 60 (supCells s)
  have hb : Below w.heap.size w (w.alloc (.cells (supCells s).toArray 60)) := (Below.refl _ w).alloc (Nat.le_refl _) _
  obtain ⟨nodes, capacity, frames, quorum, delay⟩ := s
  simp only [supCells, supV] at *
  have c0 := hB.cell 0; have c1 := hB.cell 1; have c2 := hB.cell 2; have c3 := hB.cell 3; have c4 := hB.cell 4
  clear hB
  go_enter Tryz.func38, Tryz.ntmps38
  go_wp2
  all_goals
    go_ret
    refine ⟨ret_bool ?_, hb⟩
    unfold maySet
    rw [Bool.eq_iff_iff]
    simp
    try omega
end Go.Proofs.YtgplaeopcejmoaaGreatDoor
namespace Go.Proofs.YtgplaeopcejmoaaGreatDoor
open Go.RowKit

def memL (n : Nat) : List Int := (List.range n).map fun (i : Nat) => (i : Int) + 2
theorem memL_at {n i : Nat} (h : i < n) : (memL n)[i]? = some ((i : Int) + 2) := by
  unfold memL
  rw [List.getElem?_map, List.getElem?_range h]; rfl
theorem memL_len (n : Nat) : (memL n).length = n := by simp [memL]
set_option maxRecDepth 100000 in
set_option maxHeartbeats 2000000 in
theorem nmay_any (n : Nat) (hn : n ≤ 4) (frames quorum delay : Int) (pa : Option Addr) (pc : Nat) (w : World) (hP : PkAt w pa (memL n)) :
    Calls Tryz.prog 99 #[.agg #[.int .i64 1, .int .i64 frames, .slice pa n pc, .int .i64 quorum, .int .i64 delay]] w fun e w' => e = .returned (.bool (decide (4 ≤ frames ∧ frames ≤ 128 ∧ 0 ≤ quorum ∧ quorum ≤ n ∧ 0 ≤ delay ∧ delay ≤ 100))) ∧ Below w.heap.size w w' := by
  have hB := Blk.new w 149 [.int .i64 1, .int .i64 frames, .slice pa n pc, .int .i64 quorum, .int .i64 delay]
  have hb : Below w.heap.size w (w.alloc (.cells [.int .i64 1, .int .i64 frames, .slice pa n pc, .int .i64 quorum, .int .i64 delay].toArray 149)) := (Below.refl _ w).alloc (Nat.le_refl _) _
  have c0 := hB.cell 0; have c1 := hB.cell 1; have c2 := hB.cell 2; have c3 := hB.cell 3; have c4 := hB.cell 4
  have HP := Lib.hid (hP.below hb)
  clear hB hP
  go_enter Tryz.func99, Tryz.ntmps99
  go_wp2
  go_loop [8] (fun i => ∃ j : Nat, j ≤ n ∧ i = .int .i64 j) (fun i => n - (intOf i).toNat)
  case atStart => exact ⟨0, Nat.zero_le _, rfl⟩
  case round =>
    obtain ⟨j, hj, rfl⟩ := hrel
    by_cases hlt : j < n
    · have hne : memL n ≠ [] := fun e => by have := memL_len n; rw [e] at this; simp at this; omega
      obtain ⟨g, o, rfl, hg, hc⟩ := HP.out hne
      have y1 := hc j _ (memL_at hlt)
      have a1 : ¬ (j : Int) + 2 < 1 := by omega
      have a2 : ¬ 5 < (j : Int) + 2 := by omega
      have a3 : ((j : Int) + 2 == 1) = false := beq_eq_false_iff_ne.2 (by omega)
      by_cases h0 : 0 < j
      · have y2 := hc (j - 1) _ (memL_at (by omega))
        have e1 : ((j : Int) - 1).toNat = j - 1 := by omega
        have e2 : ((j - 1 : Nat) : Int) = (j : Int) - 1 := by omega
        rw [e2] at y2
        have b1 : 0 ≤ (j : Int) - 1 := by omega
        have b2 : (j : Int) - 1 < (n : Int) := by omega
        have b3 : ¬ (j : Int) + 2 ≤ (j : Int) - 1 + 2 := by omega
        clear hc hne e2
        go_wp2
        go_round
        case rel => exact ⟨j + 1, by omega, by go_num⟩
        case measure => simp [intOf]; omega
      · obtain rfl : j = 0 := by omega
        have y0 : (w.alloc (.cells #[.int .i64 1, .int .i64 frames, .slice (some ⟨g, o, none⟩) n pc, .int .i64 quorum, .int .i64 delay] 149)).cell? ⟨g, o, none⟩ = some (.int .i64 2) := by
          have h := hc 0 2 (by have := memL_at (n := n) (i := 0) (by omega); simpa using this)
          rw [Nat.add_zero] at h
          exact h
        clear hc hne y1 a1 a2 a3
        go_wp2
        go_round
        case rel => exact ⟨0 + 1, by omega, by go_num⟩
        case measure => simp [intOf]; omega
    · obtain rfl : j = n := by omega
      go_wp2
      all_goals
        go_ret
        refine ⟨ret_bool ?_, hb⟩
        first
        | (simp; done)
        | (simp; omega)
end Go.Proofs.YtgplaeopcejmoaaGreatDoor
namespace Go.Proofs.YtgplaeopcejmoaaGreatDoor
open Go.RowKit Go.Shelf

theorem memL_next (n : Nat) : memL (n + 1) = memL n ++ [(n : Int) + 2] := by
  unfold memL
  rw [List.range_succ, List.map_append]; rfl
theorem results_row_one {P : Program} {fn : Func} {p : Tmp} {ty : TypeId} (h : fn.results = #[.cell p ty]) (tmps : Array Value) (w : World) (g : Nat) (t : TypeId) (cs : Array Value) (fr : Nat × Nat) (d : TypeDesc)
    (hp : tmps.getD p undef = .pointer (some ⟨g, 0, none⟩)) (hg : w.heap[g]? = some (.cells cs t fr))
    (hu : P.underlying ty = some d) (hd : (match d with | .struct _ | .array _ _ => true | _ => false) = true) (hi : (P.info? ty).map (·.size) = some cs.size) :
    (results fn tmps).run P w = .ok (.agg cs) w := by
  have e : (results fn tmps).run P w = ((asAddr (tmps.getD p undef)).run P w).andThen fun a w₁ => (loadVar ty a).run P w₁ := by
    simp only [results, h]
    simp [Sem.run_bind, Result.andThen]
  rw [e, hp]
  simp [asAddr, run_loadVar_row w g t ty cs fr d hg hu hd hi, Result.andThen]
def confR (n : Nat) (frames quorum delay : Int) (e : Ending) (w : World) : Prop := ∃ pa pc, e = .returned (.agg #[.int .i64 1, .int .i64 frames, .slice pa n pc, .int .i64 quorum, .int .i64 delay]) ∧ PkAt w pa (memL n)
theorem infoConf : (Tryz.prog.info? 149).map (·.size) = some 5 := by kernel_rfl
theorem wpList_append_i {w : World} {ops : Array Oper} {rest : List Oper} {o : Oper} {a : Act} {Q : Exit → Act → World → Prop} (hgd : o.guard = none) (s x : Operand)
    (ho : o.op = .call { callee := .builtin .append, args := #[s, x], argTypes := #[37, 37] }) (base : Nat) (v : Value) (xs : List Int) (ad : Addr) (m c : Nat) (news : List Int) (hs : a.eval s = v) (hx : a.eval x = .slice (some ad) m c)
    (hown : OwnI w base v xs) (hn : xs.length ≤ 100000) (hbase : base ≤ w.heap.size) (hm : m = news.length) (hn2 : m ≤ 100000) (hnews : ∀ j u, (cellsI news)[j]? = some u → w.cell? (ad.add j) = some u)
    (h : ∀ v' w', OwnI w' base v' (xs ++ news) → w.grownBy w' v.ownBlock → wpList Tryz.prog ops Q rest (a.put o.dst v') w') : wpList Tryz.prog ops Q (o :: rest) a w := by
  obtain ⟨v', w', hr, h1, h2⟩ := append_i w base v xs hown hn hbase ad m c news hm hn2 hnews o.type
  exact wpList_two hgd .append s x #[37, 37] ho v _ hs hx hr (h v' w' h1 h2)
theorem ownI_pk0 {w : World} {base : Nat} {pv : Value} {l : List Int} (h : OwnI w base pv l) : ∃ A c, pv = .slice A l.length c ∧ PkAt w A l := by
  obtain ⟨A, c, rfl⟩ := h.any
  refine ⟨A, c, rfl, fun hl => ?_⟩
  obtain ⟨g, cap, hv, _, hg⟩ := h.form hl
  injection hv with hA
  subst hA
  exact ⟨g, 0, rfl, hg, fun j x hx => h.cells rfl j x hx⟩

set_option maxRecDepth 100000 in
set_option maxHeartbeats 4000000 in
theorem conf_any (s : Sup) (n : Nat) (hn : s.nodes = (n : Int) + 1) (hn1 : n ≤ 4) (w : World) :
    Calls Tryz.prog 100 #[supV s, .int .i64 1] w fun e w' => confR n s.frames s.quorum s.delay e w' ∧ Below w.heap.size w w' := by
  have hB := Blk.new w 60 (supCells s)
  obtain ⟨nodes, capacity, frames, quorum, delay⟩ := s
  simp only [supCells, supV] at *
  subst hn
  have c0 := hB.cell 0; have c1 := hB.cell 1; have c2 := hB.cell 2; have c3 := hB.cell 3; have c4 := hB.cell 4
  go_enter Tryz.func100, Tryz.ntmps100
  go_wp2_with fail
  have hsz : ∀ (A B C : Obj), Below w.heap.size w (((w.alloc A).alloc B).alloc C) := fun A B C => (((Below.refl _ w).alloc (Nat.le_refl _) _).alloc (by simp) _).alloc (by simp; omega) _
  have hb1 : ∀ (B C : Obj), Blk (((w.alloc (.cells #[.int .i64 ((n : Int) + 1), .int .i64 capacity, .int .i64 frames, .int .i64 quorum, .int .i64 delay] 60)).alloc B).alloc C) w.heap.size 60 [.int .i64 ((n : Int) + 1), .int .i64 capacity, .int .i64 frames, .int .i64 quorum, .int .i64 delay] := fun B C => (hB.alloc B).alloc C
  have hb2 : ∀ (A C : Obj) (L : List Value), Blk (((w.alloc A).alloc (.cells L.toArray 149)).alloc C) (w.heap.size + 1) 149 L := fun A C L => by
    have := (Blk.new (w.alloc A) 149 L).alloc C
    rwa [World.size_alloc] at this
  have hb3 : ∀ (A B : Obj) (L : List Value), Blk (((w.alloc A).alloc B).alloc (.cells L.toArray 149)) (w.heap.size + 2) 149 L := fun A B L => by
    have := Blk.new ((w.alloc A).alloc B) 149 L
    rwa [World.size_alloc, World.size_alloc] at this
  clear hB c0 c1 c2 c3 c4
  go_loopw [6] (fun i wr => ∃ (o : Nat) (v : Value), 1 ≤ o ∧ o ≤ n + 2 ∧ i = .int .i64 o ∧ Below w.heap.size w wr ∧ Hid (Blk wr w.heap.size 60 [.int .i64 ((n : Int) + 1), .int .i64 capacity, .int .i64 frames, .int .i64 quorum, .int .i64 delay]) ∧ Hid (Blk wr (w.heap.size + 1) 149 [.int .i64 0, .int .i64 0, .slice none 0 0, .int .i64 0, .int .i64 0]) ∧ Hid (Blk wr (w.heap.size + 2) 149 [.int .i64 1, .int .i64 frames, v, .int .i64 quorum, .int .i64 delay]) ∧ Hid (OwnI wr (w.heap.size + 3) v (memL (o - 2)))) (fun i _ => n + 3 - (intOf i).toNat)
  case atStart => exact ⟨1, _, Nat.le_refl _, by omega, rfl, hsz _ _ _, Lib.hid (hb1 _ _), Lib.hid (hb2 _ _ _), Lib.hid (hb3 _ _ _), Lib.hid (OwnI.nil _ _)⟩
  case round =>
    clear hsz hb1 hb2 hb3
    obtain ⟨o, v, ho1, ho, rfl, hb, H0, H1, H2, HO⟩ := hrel
    have c0 : wr.cell? ⟨w.heap.size, 0, none⟩ = some (.int .i64 ((n : Int) + 1)) := H0.out.cell 0
    have d2 : wr.cell? ⟨w.heap.size + 2, 2, none⟩ = some v := H2.out.cell 2
    have hbz : w.heap.size + 3 ≤ wr.heap.size := H2.out.lt
    by_cases hlt : o ≤ n + 1
    · have g1 : (o : Int) ≤ (n : Int) + 1 := by omega
      by_cases h1 : o = 1
      · subst h1
        go_wp2
        go_roundw
        case rel => exact ⟨2, _, by omega, by omega, by go_num, hb, H0, H1, H2, HO⟩
        case measure => simp [intOf]
      · have g2 : ((o : Int) != 1) = true := by rw [bne_iff_ne]; omega
        have hmn : memL (o - 2 + 1) = memL (o - 2) ++ [(o : Int)] := by rw [memL_next]; congr 2; omega
        have HM := Lib.hid hmn
        clear hmn
        have hml : (memL (o - 2)).length ≤ 100000 := by rw [memL_len]; omega
        have hsz := HO.out.size
        have HSZ := Lib.hid hsz
        clear hsz
        go_wp2_with (
          at_builtin
          refine wpList_append_i rfl (.tmp 25) (.tmp 27) rfl (w.heap.size + 3) v (memL (o - 2)) ⟨wr.heap.size, 0, none⟩ 1 1 [(o : Int)] rfl rfl (by exact HO.out.alloc _) hml (by simp; omega) rfl (by omega) (by intro j u hu; exact news_i wr [(o : Int)] j u hu) ?_
          intro v3 w3 hown3 hgr3
          obtain ⟨g1, cap1, hv1, _, _⟩ := hown3.form (by simp)
          rw [List.length_append, List.length_singleton] at hv1
          subst hv1
          have k0 := Lib.hid ((H0.out.alloc (.cells (cellsI [(o : Int)]).toArray 3)).grown hgr3 (fun e => by have := HSZ.out _ e.symm; omega))
          have k1 := Lib.hid ((H1.out.alloc (.cells (cellsI [(o : Int)]).toArray 3)).grown hgr3 (fun e => by have := HSZ.out _ e.symm; omega))
          have k2 := Lib.hid ((H2.out.alloc (.cells (cellsI [(o : Int)]).toArray 3)).grown hgr3 (fun e => by have := HSZ.out _ e.symm; omega))
          have f2 := k2.out.frozen 2
          have e2 : w3.cell? ⟨w.heap.size + 2, 2, none⟩ = some v := k2.out.cell 2)
        rw [← HM.out] at hown3
        have hb3 : Below w.heap.size w w3 := (hb.alloc hb.size _).grown hgr3 (by have := hb.size; simp; omega) (fun z hz => by have := HSZ.out z hz; omega)
        go_roundw
        case rel =>
          refine ⟨o + 1, .slice (some ⟨g1, 0, none⟩) ((memL (o - 2)).length + 1) cap1, by omega, by omega, by go_num, hb3.setCell (p := ⟨w.heap.size + 2, 2, none⟩) (by simp) _, Lib.hid (k0.out.setOther (by omega) _ _), Lib.hid (k1.out.setOther (by omega) _ _), Lib.hid ?_, Lib.hid ?_⟩
          · exact k2.out.setCell 2 _ (by simp)
          · have e : o + 1 - 2 = o - 2 + 1 := by omega
            rw [e]
            exact hown3.kept (grown_setCell _ _ _ _) (fun i e => by injection e with e; omega)
        case measure => simp [intOf]; omega
    · obtain rfl : o = n + 2 := by omega
      have g1 : ¬ (n : Int) + 2 ≤ (n : Int) + 1 := by omega
      have e0 : n + 2 - 2 = n := by omega
      rw [e0] at HO
      obtain ⟨A, c, hv⟩ := HO.out.any
      rw [memL_len] at hv
      subst hv
      have x0 : wr.cell? ⟨w.heap.size + 2, 0, none⟩ = some (.int .i64 1) := H2.out.cell 0
      have x1 : wr.cell? ⟨w.heap.size + 2, 1, none⟩ = some (.int .i64 frames) := H2.out.cell 1
      have x3 : wr.cell? ⟨w.heap.size + 2, 3, none⟩ = some (.int .i64 quorum) := H2.out.cell 3
      have x4 : wr.cell? ⟨w.heap.size + 2, 4, none⟩ = some (.int .i64 delay) := H2.out.cell 4
      go_wp2_with (refine wpList_store_row rfl 149 _ _ rfl (w.heap.size + 1) #[.int .i64 1, .int .i64 frames, .slice A n c, .int .i64 quorum, .int .i64 delay] rfl rfl 149 _ H1.out infoConf rfl (by simp [Value.oneCell']) ?_)
      refine bodyPost_ret (results_row_one rfl _ _ (w.heap.size + 1) 149 #[.int .i64 1, .int .i64 frames, .slice A n c, .int .i64 quorum, .int .i64 delay] (0, 0) _ rfl (H1.out.set [.int .i64 1, .int .i64 frames, .slice A n c, .int .i64 quorum, .int .i64 delay]) Tryz.underlying149 rfl infoConf) rfl ?_
      refine ⟨⟨A, c, rfl, ?_⟩, below_setRow hb (by omega) _⟩
      obtain ⟨A', c', e', hp'⟩ := ownI_pk0 (OwnI.kept HO.out (grownBy_setRow _ (w.heap.size + 1) #[.int .i64 1, .int .i64 frames, .slice A n c, .int .i64 quorum, .int .i64 delay]) (fun i e => by injection e with e; omega))
      injection e' with e'
      subst e'
      exact hp'

theorem maySet_nodes {s : Sup} (h1 : 2 ≤ s.nodes) (h2 : s.nodes ≤ 5) (h3 : 1 ≤ s.capacity) (h4 : s.capacity ≤ 1048576) (n : Nat) (hn : s.nodes = (n : Int) + 1) : maySet s = decide (4 ≤ s.frames ∧ s.frames ≤ 128 ∧ 0 ≤ s.quorum ∧ s.quorum ≤ (n : Int) ∧ 0 ≤ s.delay ∧ s.delay ≤ 100) := by
  unfold maySet
  rw [decide_eq_decide]
  omega
theorem maySet_no {s : Sup} (h : ¬ (2 ≤ s.nodes ∧ s.nodes ≤ 5 ∧ 1 ≤ s.capacity ∧ s.capacity ≤ 1048576)) : maySet s = false := by
  unfold maySet
  rw [decide_eq_false_iff_not]
  omega
set_option maxRecDepth 100000 in
set_option maxHeartbeats 4000000 in
theorem cmay_any (s : Sup) (w : World) : Calls Tryz.prog 73 #[supV s] w fun e w' => e = .returned (.bool (maySet s)) ∧ Below w.heap.size w w' := by
  have hB := Blk.new w 60 (supCells s)
  have hb : Below w.heap.size w (w.alloc (.cells (supCells s).toArray 60)) := (Below.refl _ w).alloc (Nat.le_refl _) _
  by_cases h : 2 ≤ s.nodes ∧ s.nodes ≤ 5 ∧ 1 ≤ s.capacity ∧ s.capacity ≤ 1048576
  · obtain ⟨h1, h2, h3, h4⟩ := h
    obtain ⟨n, hn⟩ : ∃ n : Nat, s.nodes = (n : Int) + 1 := ⟨(s.nodes - 1).toNat, by omega⟩
    have hn4 : n ≤ 4 := by omega
    rw [maySet_nodes h1 h2 h3 h4 n hn]
    have hcf := fun W => conf_any s n hn hn4 W
    have HC := Lib.hid hcf
    clear hcf
    obtain ⟨nodes, capacity, frames, quorum, delay⟩ := s
    simp only [supCells, supV] at *
    subst hn
    have c0 := hB.cell 0; have c1 := hB.cell 1; have c2 := hB.cell 2; have c3 := hB.cell 3; have c4 := hB.cell 4
    clear hB
    have hq : ((n : Int) + 1 ≤ 5) := h2
    have hd := fun (pa : Option Addr) (pc : Nat) (W : World) (hP : PkAt W pa (memL n)) => nmay_any n hn4 frames quorum delay pa pc W hP
    have HD := Lib.hid hd
    clear hd hn4
    generalize hX : decide (4 ≤ frames ∧ frames ≤ 128 ∧ 0 ≤ quorum ∧ quorum ≤ (n : Int) ∧ 0 ≤ delay ∧ delay ≤ 100) = X at *
    clear hX
    go_enter Tryz.func73, Tryz.ntmps73
    go_wp2_with (first
      | (go_at_call 100; refine (HC.out _).mono ?_; rintro e w1 ⟨⟨pa, pc, rfl, hp1⟩, hb1⟩; have HP := Lib.hid hp1; clear hp1)
      | (go_at_call 99; refine (HD.out _ _ _ HP.out).mono ?_; rintro e w2 ⟨rfl, hb2⟩))
    go_ret
    exact ⟨rfl, (hb.trans (hb1.mono hb.size)).trans (hb2.mono (Nat.le_trans hb.size hb1.size))⟩
  · rw [maySet_no h]
    obtain ⟨nodes, capacity, frames, quorum, delay⟩ := s
    simp only [supCells, supV] at *
    have c0 := hB.cell 0; have c1 := hB.cell 1; have c2 := hB.cell 2; have c3 := hB.cell 3; have c4 := hB.cell 4
    clear hB
    by_cases g1 : 2 ≤ nodes
    · by_cases g2 : nodes ≤ 5
      · by_cases g3 : 1 ≤ capacity
        · have g4 : ¬ capacity ≤ 1048576 := fun g4 => h ⟨g1, g2, g3, g4⟩
          clear h
          go_enter Tryz.func73, Tryz.ntmps73
          go_wp2
          go_ret
          exact ⟨rfl, hb⟩
        · clear h
          go_enter Tryz.func73, Tryz.ntmps73
          go_wp2
          go_ret
          exact ⟨rfl, hb⟩
      · clear h
        go_enter Tryz.func73, Tryz.ntmps73
        go_wp2
        go_ret
        exact ⟨rfl, hb⟩
    · clear h
      go_enter Tryz.func73, Tryz.ntmps73
      go_wp2
      go_ret
      exact ⟨rfl, hb⟩
end Go.Proofs.YtgplaeopcejmoaaGreatDoor
