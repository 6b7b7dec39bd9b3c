/- The law ScriptNames, walked. -/
import Derived.Test.YtgplaeopcejmoaaDoorRname
import Derived.Test.YtgplaeopcejmoaaDoorOptxt
namespace Go.Proofs.YtgplaeopcejmoaaDoor
open Go.RowKit Go.Shelf

attribute [local go_sem] Oper.semAt_some

/-- what stands while the names are gone over -/
structure NmI (w : World) (m : Int) (pre : List (Fin 12)) (W : World) : Prop where
  part : pre <+: allK
  less : 1 ≤ m → (pre.length : Int) < m
  most : Blk W w.heap.size 3 [.int .i64 m]
  res : Blk W (w.heap.size + 1) 4 [.bool false]
  cnt : Blk W (w.heap.size + 1 + 1) 3 [.int .i64 (pre.length : Int)]
  bel : Below w.heap.size w W
/-- what stands where they are left -/
def NmF (w : World) (pre : List (Fin 12)) (W : World) : Prop := (pre <+: allK → Blk W (w.heap.size + 1) 4 [.bool true]) ∧ Below w.heap.size w W

theorem own_nmI (w : World) (m : Int) {B : Nat} (hB : w.heap.size ≤ B) : OwnFrom B (NmI w m) := fun s A C row hs hg hr =>
  ⟨hs.part, hs.less, own_blk (β := Unit) _ _ _ () A C row hs.most hg (fun r e => (hr r e).2), own_blk (β := Unit) _ _ _ () A C row hs.res hg (fun r e => (hr r e).2), own_blk (β := Unit) _ _ _ () A C row hs.cnt hg (fun r e => (hr r e).2),
   hs.bel.grown hg hs.bel.size (fun k e => by have := (hr k e).1; omega)⟩
theorem own_nmF (w : World) {B : Nat} (hB : w.heap.size ≤ B) : OwnFrom B (NmF w) := fun s A C row hs hg hr =>
  ⟨fun h => own_blk (β := Unit) _ _ _ () A C row (hs.1 h) hg (fun r e => (hr r e).2), hs.2.grown hg hs.2.size (fun k e => by have := (hr k e).1; omega)⟩

theorem part_next {pre : List (Fin 12)} {x : Fin 12} (h : pre <+: allK) (e : x.val = pre.length) : pre ++ [x] <+: allK := by
  have hp := List.prefix_iff_eq_take.1 h
  have hk : pre.length < 12 := by have := x.isLt; omega
  have hx : x = ⟨pre.length, hk⟩ := Fin.ext e
  rw [hx]
  have := allK_take pre.length hk
  rw [← hp] at this
  rw [← this]
  exact List.take_prefix _ _
theorem part_not {pre : List (Fin 12)} {x : Fin 12} (e : x.val ≠ pre.length) : ¬ pre ++ [x] <+: allK := by
  intro h
  obtain ⟨t, ht⟩ := h
  have h1 : allK[pre.length]? = some x := by rw [← ht]; simp
  have hk : pre.length < 12 := by
    obtain ⟨hl, _⟩ := List.getElem?_eq_some_iff.1 h1
    simpa [allK] using hl
  have h2 : allK[pre.length]? = some ⟨pre.length, hk⟩ := by simp [allK, hk]
  rw [h1] at h2
  cases h2
  exact e rfl

theorem wp_namesR (n₀ : Nat) {g : Operand} {ps : Array Tmp} {assign body : Code} {Q0 : Exit → Act → World → Prop} {a : Act} {w : World} (hg : a.eval g = .func (.func 30) #[] #[]) (hps : ps.size = 2) (hn0 : n₀ ≤ w.heap.size)
    (I : List (Fin 12) → World → Prop) (Fi : List (Fin 12) → World → Prop) (hI : OwnFrom w.heap.size I) (hFi : OwnFrom w.heap.size Fi) (h0 : I [] w) (a₁ : Fin 12 → Act)
    (hassign : ∀ (l : Nat) (x : Fin 12) (W : World) (K : Act → World → Prop), K (a₁ x) W →
      assign.wpIn (Fence.wide.inRound l) 7 Tryd.prog (Exit.then K (fun _ _ _ => False)) { tmps := (ps.zip (encK x)).foldl (fun t (p, v) => t.setIfInBounds p v) a.tmps, defers := [] } W)
    (hbody : ∀ (l : Nat) (pre : List (Fin 12)) (x : Fin 12) (W : World), I pre W → body.wpIn (Fence.wide.inRound l) 7 Tryd.prog (ownPostK (Below n₀) I (fun c pre W => c = .ret ∧ Fi pre W) (pre ++ [x]) W) (a₁ x) W)
    (hend : ∀ D W, w.heap.size ≤ D → I allK W → W.heap[D]? = some (.deferred (some [])) → Q0 .normal { a with defers := { target := .collected D, args := #[] } :: a.defers } W)
    (hret : ∀ D pre W, w.heap.size ≤ D → pre <+: allK → Fi pre W → W.heap[D]? = some (.deferred (some [])) → Code.ret.wp Tryd.prog (Exit.inBlock 0 Q0) { a with defers := { target := .collected D, args := #[] } :: a.defers } W) :
    (Code.rangeFunc g ps assign body).wp Tryd.prog (Exit.inBlock 0 Q0) a w := by
  refine wpIn_wide.1 (wpIn_rangeFunc_ownF (n := 9) rfl (by omega) (gf := 30) (lb := #[]) hg trivial (enters_of Tryd.func30 (by kernel_rfl) rfl) (names_stops 8 n₀ (by omega) w) belowK_t (belowK_b hn0) (Below.refl _ _) (fun _ => by rw [hps]; rfl)
      I (fun c pre W => c = .ret ∧ Fi pre W) hI ?_ h0 a₁ hassign (fun l pre x W hi _ => hbody l pre x W hi) ?_ ?_)
  · intro c s A B row hs hg hr
    exact ⟨hs.1, hFi s A B row hs.2 hg hr⟩
  · rintro D ys W hD rfl hi hk
    exact hend D W hD hi hk
  · rintro D c pre W hD hpre ⟨rfl, hf⟩ hk
    exact wpIn_wide.2 (hret D pre W hD hpre hf hk)
theorem allK_len : (allK.length : Int) = 12 := by simp [allK]
theorem name_eq (x : Fin 12) : ((nmAt x).toList == (nmAt x).toList) = true := by simp

set_option maxRecDepth 100000 in
set_option maxHeartbeats 4000000 in
theorem lnames_any (m : Int) (w : World) : Calls Tryd.prog 14 #[.int .i64 m] w fun e w' => e = .returned (.bool true) ∧ Below w.heap.size w w' := by
  refine callsIn_wide.1 (callsIn_of_wp_marks (n := 9) Tryd.func14 rfl trivial ?_ rfl)
  refine wpIn_wide.2 ?_
  simp only [Tryd.ntmps14, List.size_toArray, List.length_cons, List.length_nil, Nat.reduceAdd, Nat.reduceSub, Array.replicate_succ, Array.replicate_zero, List.push_toArray, List.append_toArray, List.nil_append, List.cons_append]
  have hfn : ∀ W, (binOp .eql 39 (.func (.func 30) #[] #[]) .nilFunc).run Tryd.prog W = .ok (.bool false) W := fun W => by kernel_rfl
  go_wp2_with (go_at_call 13; refine (names_any _).mono ?_; rintro e w2 ⟨rfl, rfl⟩)
  refine wp_namesR w.heap.size rfl rfl (by simp; omega) (NmI w m) (NmF w) (own_nmI w m (by simp; omega)) (own_nmF w (by simp; omega)) ?h0 ?a1 ?assign ?body ?hend ?hret
  case h0 =>
    refine ⟨List.nil_prefix, fun h => by simp; omega, ?_, ?_, ?_, ?_⟩
    · exact ((Blk.new w 3 [.int .i64 m]).alloc _).alloc _
    · have := (Blk.new (w.alloc (.cells #[.int .i64 m] 3)) 4 [.bool false]).alloc (.cells #[.int .i64 0] 3)
      simpa using this
    · have := Blk.new ((w.alloc (.cells #[.int .i64 m] 3)).alloc (.cells #[.bool false] 4)) 3 [.int .i64 0]
      simpa using this
    · exact (((Below.refl _ w).alloc (Nat.le_refl _) _).alloc (by simp) _).alloc (by simp; omega) _
  case assign =>
    intro l x W K hK
    gi_wp2
    exact hK
  case body =>
    rintro l pre x W ⟨hp, hm, b0, b1, b2, hB⟩
    have c0 := b0.cell 0
    have c1 := b1.cell 0
    have c2 : W.cell? ⟨w.heap.size + 1 + 1, 0, none⟩ = some (.int .i64 (pre.length : Int)) := b2.cell 0
    have f1 := b1.frozen 0
    have f2 := b2.frozen 0
    have hl : pre.length ≤ 12 := by have := hp.length_le; simpa [allK] using this
    obtain ⟨n, hn⟩ : ∃ n : Int, (pre.length : Int) + 1 = n := ⟨_, rfl⟩
    have hw : IntKind.i64.wrap ((pre.length : Int) + 1) = n := by rw [IntKind.wrap_i64]; omega
    have HN := Lib.hid hn; clear hn
    have hlt := b2.lt
    have hcall : ∀ V, CallsIn (Fence.wide.inRound l) 6 Tryd.prog 31 #[.int .i64 (1 + (x.val : Int))] V (nameR x V) := fun V => (callsIn_wide.2 (refname_any x V)).inRound l
    have hne : ((nmAt x).toList != (nmAt x).toList) = false := by simp
    by_cases e : 1 + (x.val : Int) = n
    · have hq : (1 + (x.val : Int) != n) = false := by simp [e]
      have HE := Lib.hid e; clear e
      by_cases e2 : n = m
      · have hq2 : (n == m) = true := by simp [e2]
        clear e2
        gi_wp2_with (refine ⟨trivial, ?_⟩; gi_at_call 31; (with_reducible refine CallsIn.mono (hcall _) ?_); rintro e' w3 ⟨⟨s, rfl⟩, hb⟩
                     have d0 := (b0.setOther (b := w.heap.size + 1 + 1) (by omega) 0 (.int .i64 n)).below hb (by simp; omega)
                     have d1 := (b1.setOther (b := w.heap.size + 1 + 1) (by omega) 0 (.int .i64 n)).below hb (by simp; omega)
                     have d2 := (b2.setCell 0 (.int .i64 n) (by simp)).below hb (by simp; omega)
                     have k0 := d0.cell 0; have k1 := d1.cell 0; have g1 := d1.frozen 0
                     have hb3 : Below w.heap.size w w3 := (hB.setCell (p := ⟨w.heap.size + 1 + 1, 0, none⟩) (by simp; omega) _).trans (hb.mono (by simp; omega))
                     have hk3 : KeepsOthers W w3 := (KeepsOthers.setCell W ⟨w.heap.size + 1 + 1, 0, none⟩ (.int .i64 n)).trans (KeepsOthers.of_grownBy (row := none) ⟨hb.os, hb.tape, hb.output, hb.size, fun j hj _ => hb.block j hj⟩ (fun _ _ e => by cases e))
                     have hbw : Below w.heap.size W w3 := ((Below.refl _ W).setCell (p := ⟨w.heap.size + 1 + 1, 0, none⟩) (by simp; omega) _).trans (hb.mono (by simp; omega))
                     have k2 : w3.cell? ⟨w.heap.size + 1 + 1, 0, none⟩ = some (.int .i64 n) := d2.cell 0)
        refine ⟨hk3.trans (KeepsOthers.setCell _ _ _), rfl, fun _ => d1.setCell 0 (.bool true) (by simp), hb3.setCell (p := ⟨w.heap.size + 1, 0, none⟩) (by simp) _⟩
      · have hq2 : (n == m) = false := by simp [e2]
        have HE2 := Lib.hid e2; clear e2
        gi_wp2_with (refine ⟨trivial, ?_⟩; gi_at_call 31; (with_reducible refine CallsIn.mono (hcall _) ?_); rintro e' w3 ⟨⟨s, rfl⟩, hb⟩
                     have d0 := (b0.setOther (b := w.heap.size + 1 + 1) (by omega) 0 (.int .i64 n)).below hb (by simp; omega)
                     have d1 := (b1.setOther (b := w.heap.size + 1 + 1) (by omega) 0 (.int .i64 n)).below hb (by simp; omega)
                     have d2 := (b2.setCell 0 (.int .i64 n) (by simp)).below hb (by simp; omega)
                     have k0 := d0.cell 0; have k1 := d1.cell 0; have g1 := d1.frozen 0
                     have hb3 : Below w.heap.size w w3 := (hB.setCell (p := ⟨w.heap.size + 1 + 1, 0, none⟩) (by simp; omega) _).trans (hb.mono (by simp; omega))
                     have hk3 : KeepsOthers W w3 := (KeepsOthers.setCell W ⟨w.heap.size + 1 + 1, 0, none⟩ (.int .i64 n)).trans (KeepsOthers.of_grownBy (row := none) ⟨hb.os, hb.tape, hb.output, hb.size, fun j hj _ => hb.block j hj⟩ (fun _ _ e => by cases e))
                     have hbw : Below w.heap.size W w3 := ((Below.refl _ W).setCell (p := ⟨w.heap.size + 1 + 1, 0, none⟩) (by simp; omega) _).trans (hb.mono (by simp; omega))
                     have k2 : w3.cell? ⟨w.heap.size + 1 + 1, 0, none⟩ = some (.int .i64 n) := d2.cell 0)
        have e := HE.out; have e2 := HE2.out; have hn := HN.out
        refine ⟨hk3, hbw, part_next hp (by omega), fun h => ?_, d0, d1, ?_, hb3⟩
        · have := hm h
          simp only [List.length_append, List.length_cons, List.length_nil]
          omega
        · have e3 : (((pre ++ [x]).length : Nat) : Int) = n := by simp only [List.length_append, List.length_cons, List.length_nil]; omega
          rw [e3]; exact d2
    · have hq : (1 + (x.val : Int) != n) = true := by simp [e]
      have HE := Lib.hid e; clear e
      gi_wp2_with (refine ⟨trivial, ?_⟩; gi_at_call 31; (with_reducible refine CallsIn.mono (hcall _) ?_); rintro e' w3 ⟨⟨s, rfl⟩, hb⟩
                   have d0 := (b0.setOther (b := w.heap.size + 1 + 1) (by omega) 0 (.int .i64 n)).below hb (by simp; omega)
                   have d1 := (b1.setOther (b := w.heap.size + 1 + 1) (by omega) 0 (.int .i64 n)).below hb (by simp; omega)
                   have d2 := (b2.setCell 0 (.int .i64 n) (by simp)).below hb (by simp; omega)
                   have k0 := d0.cell 0; have k1 := d1.cell 0; have g1 := d1.frozen 0
                   have hb3 : Below w.heap.size w w3 := (hB.setCell (p := ⟨w.heap.size + 1 + 1, 0, none⟩) (by simp; omega) _).trans (hb.mono (by simp; omega))
                   have hk3 : KeepsOthers W w3 := (KeepsOthers.setCell W ⟨w.heap.size + 1 + 1, 0, none⟩ (.int .i64 n)).trans (KeepsOthers.of_grownBy (row := none) ⟨hb.os, hb.tape, hb.output, hb.size, fun j hj _ => hb.block j hj⟩ (fun _ _ e => by cases e))
                   have hbw : Below w.heap.size W w3 := ((Below.refl _ W).setCell (p := ⟨w.heap.size + 1 + 1, 0, none⟩) (by simp; omega) _).trans (hb.mono (by simp; omega))
                   have k2 : w3.cell? ⟨w.heap.size + 1 + 1, 0, none⟩ = some (.int .i64 n) := d2.cell 0)
      have e := HE.out; have hn := HN.out
      refine ⟨hk3.trans (KeepsOthers.setCell _ _ _), rfl, fun h => absurd h (part_not (by omega)), hb3.setCell (p := ⟨w.heap.size + 1, 0, none⟩) (by simp) _⟩
  case hend =>
    rintro D W hD ⟨hp, hm, b0, b1, b2, hB⟩ hK
    have c2 : W.cell? ⟨w.heap.size + 1 + 1, 0, none⟩ = some (.int .i64 12) := b2.cell 0
    have c1 := b1.cell 0
    have f1 := b1.frozen 0
    go_wp2
    have h1 := b1.setCell 0 (.bool true) (by simp)
    have hD1 : w.heap.size + 1 ≠ D := by simp at hD; omega
    have hK' := (KeepsOthers.setCell W ⟨w.heap.size + 1, 0, none⟩ (.bool true)).same D _ hK rfl
    refine ⟨by simp, .inl ⟨_, _, rfl, run_takeDeferred hK', ?_⟩⟩
    have h2 := h1.grown (grownBy_putObj' _ D (.deferred none)) (fun e => hD1 (by cases e; rfl))
    have hc5 := h2.cell 0
    refine ⟨.bool true, by simp [results, Tryd.f14, go_sem, hc5], rfl, ?_⟩
    exact (hB.setCell (p := ⟨w.heap.size + 1, 0, none⟩) (by simp) _).trans (belowK_b (w := w) (Nat.le_refl _) _ D _ _ (by simp at hD; omega) hK' rfl rfl)
  case hret =>
    rintro D pre W hD hp ⟨h1, hB⟩ hK
    have hD1 : w.heap.size + 1 ≠ D := by simp at hD; omega
    have hp1 := h1 hp
    go_wp2
    refine ⟨by simp, .inl ⟨_, _, rfl, run_takeDeferred hK, ?_⟩⟩
    have h2 := hp1.grown (grownBy_putObj' _ D (.deferred none)) (fun e => hD1 (by cases e; rfl))
    have hc5 := h2.cell 0
    refine ⟨.bool true, by simp [results, Tryd.f14, go_sem, hc5], rfl, ?_⟩
    exact hB.trans (belowK_b (w := w) (Nat.le_refl _) _ D _ _ (by simp at hD; omega) hK rfl rfl)
end Go.Proofs.YtgplaeopcejmoaaDoor
