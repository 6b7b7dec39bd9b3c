/- The walk of the document's Apply. -/
import Derived.Test.YtjgkiecepjlheaaApp
namespace Go.Proofs.Ytjgkiecepjlheaa
open Go.RowKit

theorem Tb.cut {w : World} {B n k c : Nat} {A : Option Addr} {ps : List Pr} (h : Tb w B A n ps) (hk : k ≤ n) (hc : n ≤ c) : Tb w B (if c = k then A else A.map (·.add (k * 2))) (n - k) (ps.drop k) :=
  ⟨by rw [List.length_drop, h.1], fun hn => by
    obtain ⟨b, o, rfl, hb, hcell⟩ := h.2 (by omega)
    rw [if_neg (by omega)]
    refine ⟨b, o + k * 2, by simp [Addr.add_lit], hb, fun j p hp => ?_⟩
    rw [List.getElem?_drop] at hp
    have := hcell _ _ hp
    rw [show o + k * 2 + j * 2 = o + (k + j) * 2 by omega]
    exact this⟩

theorem Tb.cut' {w : World} {B n k c b o : Nat} {ps : List Pr} (h : Tb w B (some ⟨b, o, none⟩) n ps) (hk : k ≤ n) (hc : n ≤ c) : Tb w B (if c = k then some ⟨b, o, none⟩ else some ⟨b, o + k * 2, none⟩) (n - k) (ps.drop k) := by
  have := h.cut hk hc
  simpa [Addr.add_lit] using this

theorem wpList_append_tb {w : World} {ops : Array Oper} {rest : List Oper} {o : Oper} {a : Act} {Q : Exit → Act → World → Prop} (hgd : o.guard = none) (s x : Operand)
    (ho : o.op = .call { callee := .builtin .append, args := #[s, x], argTypes := #[23, 23] }) (base n B m c : Nat) (v : Value) (ps qs : List Pr) (A : Option Addr) (hs : a.eval s = v) (hx : a.eval x = .slice A m c)
    (hown : w.ownsRow base 40 2 v n (flat ps)) (hq : Tb w B A m qs) (hn : n + m ≤ 1000000) (hbase : base ≤ w.heap.size)
    (h : ∀ v' w', w'.ownsRow base 40 2 v' (n + m) (flat (ps ++ qs)) → w.grownBy w' v.ownBlock → wpList Try.prog ops Q rest (a.put o.dst v') w') : wpList Try.prog ops Q (o :: rest) a w := by
  obtain ⟨v', w', hr, h1, h2⟩ := append_tb w base n B m c v ps qs A hown hq hn hbase o.type
  exact wpList_two hgd .append s x #[23, 23] ho v _ hs hx hr (h v' w' h1 h2)
theorem step_append_tb {w : World} {ops : Array Oper} {o : Oper} {a : Act} {K : Act → World → Prop} {Q : Exit → Act → World → Prop} {E : Prop} (hgd : o.guard = none) (s x : Operand)
    (ho : o.op = .call { callee := .builtin .append, args := #[s, x], argTypes := #[23, 23] }) (base n B m c : Nat) (v : Value) (ps qs : List Pr) (A : Option Addr) (hs : a.eval s = v) (hx : a.eval x = .slice A m c)
    (hown : w.ownsRow base 40 2 v n (flat ps)) (hq : Tb w B A m qs) (hn : n + m ≤ 1000000) (hbase : base ≤ w.heap.size)
    (h : ∀ v' w', w'.ownsRow base 40 2 v' (n + m) (flat (ps ++ qs)) → w.grownBy w' v.ownBlock → K (a.put o.dst v') w') : if Region.wanted o (yielded ops a.tmps) = true then Oper.wp Try.prog o a w K Q else E := by
  obtain ⟨v', w', hr, h1, h2⟩ := append_tb w base n B m c v ps qs A hown hq hn hbase o.type
  exact step_two hgd .append s x #[23, 23] ho v _ hs hx hr (h v' w' h1 h2)

/-- a new pair, as buildSlice lays it -/
theorem tb_new (w : World) (p : Pr) : Tb (w.alloc (.cells #[.string p.1, .string p.2] 40)) (w.heap.size + 1) (some ⟨w.heap.size, 0, none⟩) 1 [p] :=
  ⟨rfl, fun _ => ⟨w.heap.size, 0, rfl, by omega, fun k q hq => by
    have hB : Blk (w.alloc (.cells #[.string p.1, .string p.2] 40)) w.heap.size 40 [.string p.1, .string p.2] := Blk.new w 40 [.string p.1, .string p.2]
    cases k with
    | zero =>
      simp at hq
      subst hq
      exact ⟨by rw [hB.cell]; rfl, by rw [hB.cell]; rfl⟩
    | succ k => simp at hq⟩⟩

theorem stepT_at {T : List Pr} {key x : ByteArray} {g : Bool} {i : Nat} (hp : pos T key = i) : stepT T (key, x, g) = T.take i ++ ((if g then [] else [(key, x)]) ++ tailT key (T.drop i)) := by
  subst hp; rfl
theorem tail_end {T : List Pr} {key : ByteArray} {i : Nat} (h : T.length ≤ i) : tailT key (T.drop i) = [] := by rw [List.drop_of_length_le h]; rfl
theorem tail_eq {T : List Pr} {key k1 v1 : ByteArray} {i : Nat} (h : T[i]? = some (k1, v1)) (he : (k1.toList == key.toList) = true) : tailT key (T.drop i) = T.drop (i + 1) := by
  obtain ⟨hl, h⟩ := List.getElem?_eq_some_iff.1 h
  rw [List.drop_eq_getElem_cons hl, h, tailT_cons, show eqB k1 key = true from he, if_pos rfl]
theorem tail_ne {T : List Pr} {key k1 v1 : ByteArray} {i : Nat} (h : T[i]? = some (k1, v1)) (he : (k1.toList == key.toList) = false) : tailT key (T.drop i) = T.drop i := by
  obtain ⟨hl, h⟩ := List.getElem?_eq_some_iff.1 h
  rw [List.drop_eq_getElem_cons hl, h, tailT_cons, show eqB k1 key = false from he]; rfl

set_option maxHeartbeats 4000000 in
set_option maxRecDepth 100000 in
theorem refapply_any (A : Option Addr) (n c : Nat) (ps : List Pr) (D : Option Addr) (m d : Nat) (ws : List Wr) (w : World) (hnc : n ≤ c) (hn : n ≤ 900000) (hm : m ≤ 1000) (ht : Tb w w.heap.size A n ps) (hw : Wb w w.heap.size D m ws) :
    Calls Try.prog 12 #[.slice A n c, .slice D m d] w fun e w' => ∃ A' n' c', e = .returned (.slice A' n' c') ∧ n' ≤ c' ∧ Tb w' w'.heap.size A' n' (stepsT ps ws) ∧ Below w.heap.size w w' := by
  have hl := hw.1
  have hpl := ht.1
  have HL := Lib.hid hl; clear hl
  have HP := Lib.hid hpl; clear hpl
  go_enter Try.func12, Try.ntmps12
  go_wp2
  go_loopw [0, 5] (fun v i wr => ∃ (k q : Nat) (A' : Option Addr) (c' : Nat), k ≤ m ∧ i = .int .i64 k ∧ v = .slice A' q c' ∧ q ≤ c' ∧ Tb wr wr.heap.size A' q (stepsT ps (ws.take k)) ∧ Below w.heap.size w wr) (fun _ i _ => m - (intOf i).toNat)
  case atStart => exact ⟨0, n, A, c, by omega, rfl, rfl, hnc, by simpa [stepsT] using ht, Below.refl _ _⟩
  case round =>
    obtain ⟨k, q, A', c', hk, rfl, rfl, hqc, ht', hb⟩ := hrel
    have hq := ht'.1
    have hql := length_stepsT (ws.take k) ps
    rw [hq, HP.out, List.length_take] at hql
    have hq9 : q ≤ 901000 := by omega
    have HQ := Lib.hid hq
    clear hq hql
    by_cases hlt : k < m
    · obtain ⟨b, o, rfl, hbw, hc⟩ := (hw.below hb).2 (by omega)
      obtain ⟨⟨key, x, g⟩, hp⟩ : ∃ p, ws[k]? = some p := ⟨_, List.getElem?_eq_getElem (by rw [HL.out]; omega)⟩
      obtain ⟨c0, c1, c2⟩ := hc _ _ hp
      simp only at c0 c1 c2
      have hst := stepsT_take (ps := ps) hp
      have HST := Lib.hid hst
      clear hst hc hp
      generalize hT : stepsT ps (ws.take k) = T at ht' HQ HST
      have HT := Lib.hid hT; clear hT
      go_wp2
      obtain ⟨wo, rfl⟩ : ∃ wo : World, wo = wr := ⟨_, rfl⟩
      go_loopw [6, 7] (fun u j wr => ∃ i : Nat, i ≤ q ∧ j = .int .i64 i ∧ wr.ownsRow wo.heap.size 40 2 u i (flat (T.take i)) ∧ Below wo.heap.size wo wr ∧ (∀ z p, z < i → T[z]? = some p → ltB p.1 key = true)) (fun _ j _ => q - (intOf j).toNat)
      case atStart => exact ⟨0, by omega, rfl, World.ownsRow_nil _ _ _ _, Below.refl _ _, fun _ _ h => by omega⟩
      case round =>
        obtain ⟨i, hi, rfl, hown, hb2, hlo⟩ := hrel
        have HLO := Lib.hid hlo; clear hlo
        have HO := Lib.hid hown; clear hown
        by_cases hiq : i < q
        · obtain ⟨b1, o1, rfl, hb1, hc⟩ := (ht'.below hb2).2 (by omega)
          obtain ⟨⟨k1, v1⟩, hp⟩ : ∃ p, T[i]? = some p := ⟨_, List.getElem?_eq_getElem (by rw [HQ.out]; omega)⟩
          obtain ⟨d0, d1⟩ := hc _ _ hp
          simp only at d0 d1
          have HP1 := Lib.hid hp; clear hp hc
          have e0 : wr.cell? ⟨b, o + k * 3, none⟩ = some (.string key) := (hb2.cell (by have := hb.size; show b < _; omega)).trans c0
          have h0 : (decide ((i : Int) < (q : Int))) = true := by simp; omega
          cases hlk : Op.bytesLess k1.toList key.toList
          · have hpos : pos T key = i := pos_of (by rw [HQ.out]; omega) (fun z p hz hp => HLO.out z p hz hp) (fun p hp => by rw [HP1.out] at hp; cases hp; exact hlk)
            have hst := stepT_at (x := x) (g := g) hpos
            have e1 : wr.cell? ⟨b, o + k * 3 + 1, none⟩ = some (.string x) := (hb2.cell (by have := hb.size; show b < _; omega)).trans c1
            have e2 : wr.cell? ⟨b, o + k * 3 + 2, none⟩ = some (.bool g) := (hb2.cell (by have := hb.size; show b < _; omega)).trans c2
            cases heq : (k1.toList == key.toList)
            · have ht2 := tail_ne HP1.out heq
              rw [ht2, HST.out] at hst
              have HF := Lib.hid hst; clear hst ht2 hpos
              have hcut : Tb wr wo.heap.size (some ⟨b1, o1 + i * 2, none⟩) (q - i) (T.drop i) := by
                have := (ht'.below hb2).cut' (k := i) (by omega) hqc
                rw [if_neg (by omega)] at this
                exact this
              have HC := Lib.hid hcut; clear hcut
              cases g
              · go_wp2
                go_quiet (fail)
                go_wp2_with fail
                go_region_law (refine step_append_tb rfl (.tmp 46) (.tmp 58) rfl wo.heap.size i _ 1 1 u6 (T.take i) [(key, x)] _ (by simp [Act.eval]) (by simp [Act.eval]; rfl) (by exact World.ownsRow.alloc HO.out _) (by exact tb_new _ (key, x)) (by omega) (by have := hb2.size; simp; omega) ?_; intro v2 w2 hown2 hgr2)
                all_goals
                  have hb5 : Below wo.heap.size wr w2 := ((below_drewN (Below.refl _ wr) _).alloc (by exact hb2.size) _).grown hgr2 (by have := hb2.size; simp; omega) (fun z hz => (HO.out.lt z hz).1)
                  have hcut4 := HC.out.below hb5
                  have HO4 := Lib.hid hown2; clear hown2
                  have HC4 := Lib.hid hcut4; clear hcut4
                  have d2 : w2.cell? ⟨b1, o1 + i * 2, none⟩ = some (.string k1) := (hb5.cell hb1).trans d0
                  have d3 : w2.cell? ⟨b, o + k * 3, none⟩ = some (.string key) := (hb5.cell (by have := hb.size; show b < _; omega)).trans e0
                  go_wp2_with fail
                  go_simp
                  go_quiet (fail)
                  go_wp2_with (at_builtin; refine wpList_append_tb rfl (.tmp 79) (.tmp 82) rfl wo.heap.size (i + 1) wo.heap.size (q - i) (c' - i) v2 (T.take i ++ [(key, x)]) (T.drop i) _ rfl rfl (by exact HO4.out) (by exact HC4.out) (by omega) (by have := hb2.size; have := hb5.size; exact Nat.le_trans hb2.size hb5.size) ?_; intro v3 w3 hown3 hgr3)
                  go_roundw
                  case rel =>
                    obtain ⟨A3, c3, rfl, hc3, ht3⟩ := own_tb' hown3
                    refine ⟨k + 1, _, A3, c3, by omega, by go_num, rfl, hc3, by rw [HF.out]; simpa using ht3, hb.trans ((hb2.trans ((below_drewN hb5 _).grown hgr3 (by exact Nat.le_trans hb2.size hb5.size) (fun z hz => (HO4.out.lt z hz).1))).mono hb.size)⟩
                  case measure => simp [intOf]; omega
              · go_wp2
                go_quiet (fail)
                go_wp2_with fail
                go_quiet (fail)
                go_wp2_with (at_builtin; refine wpList_append_tb rfl (.tmp 79) (.tmp 82) rfl wo.heap.size i wo.heap.size (q - i) (c' - i) u6 (T.take i) (T.drop i) _ rfl rfl (by exact HO.out) (by exact HC.out) (by omega) hb2.size ?_; intro v3 w3 hown3 hgr3)
                go_roundw
                case rel =>
                  obtain ⟨A3, c3, rfl, hc3, ht3⟩ := own_tb' hown3
                  exact ⟨k + 1, _, A3, c3, by omega, by go_num, rfl, hc3, by rw [HF.out]; exact ht3, hb.trans (((below_drewN hb2 _).grown hgr3 (by exact hb2.size) (fun z hz => (HO.out.lt z hz).1)).mono hb.size)⟩
                case measure => simp [intOf]; omega
            · have ht2 := tail_eq HP1.out heq
              rw [ht2, HST.out] at hst
              have HF := Lib.hid hst; clear hst ht2 hpos
              have hcut := (ht'.below hb2).cut' (k := i + 1) (by omega) hqc
              have HC := Lib.hid hcut; clear hcut
              cases g
              · go_wp2
                go_quiet (fail)
                go_wp2_with fail
                go_region_law (refine step_append_tb rfl (.tmp 46) (.tmp 58) rfl wo.heap.size i _ 1 1 u6 (T.take i) [(key, x)] _ (by simp [Act.eval]) (by simp [Act.eval]; rfl) (by exact World.ownsRow.alloc HO.out _) (by exact tb_new _ (key, x)) (by omega) (by have := hb2.size; simp; omega) ?_; intro v2 w2 hown2 hgr2)
                all_goals
                  have hb5 : Below wo.heap.size wr w2 := ((below_drewN (Below.refl _ wr) _).alloc (by exact hb2.size) _).grown hgr2 (by have := hb2.size; simp; omega) (fun z hz => (HO.out.lt z hz).1)
                  have hcut4 := HC.out.below hb5
                  have HO4 := Lib.hid hown2; clear hown2
                  have HC4 := Lib.hid hcut4; clear hcut4
                  have d2 : w2.cell? ⟨b1, o1 + i * 2, none⟩ = some (.string k1) := (hb5.cell hb1).trans d0
                  have d3 : w2.cell? ⟨b, o + k * 3, none⟩ = some (.string key) := (hb5.cell (by have := hb.size; show b < _; omega)).trans e0
                  go_wp2_with fail
                  go_simp
                  go_quiet (fail)
                  go_wp2_with (at_builtin; refine wpList_append_tb rfl (.tmp 79) (.tmp 82) rfl wo.heap.size (i + 1) wo.heap.size (q - (i + 1)) (c' - (i + 1)) v2 (T.take i ++ [(key, x)]) (T.drop (i + 1)) _ rfl rfl (by exact HO4.out) (by exact HC4.out) (by omega) (by have := hb2.size; have := hb5.size; exact Nat.le_trans hb2.size hb5.size) ?_; intro v3 w3 hown3 hgr3)
                  go_roundw
                  case rel =>
                    obtain ⟨A3, c3, rfl, hc3, ht3⟩ := own_tb' hown3
                    refine ⟨k + 1, _, A3, c3, by omega, by go_num, rfl, hc3, by rw [HF.out]; simpa using ht3, hb.trans ((hb2.trans ((below_drewN hb5 _).grown hgr3 (by exact Nat.le_trans hb2.size hb5.size) (fun z hz => (HO4.out.lt z hz).1))).mono hb.size)⟩
                  case measure => simp [intOf]; omega
              · go_wp2
                go_quiet (fail)
                go_wp2_with fail
                go_quiet (fail)
                go_wp2_with (at_builtin; refine wpList_append_tb rfl (.tmp 79) (.tmp 82) rfl wo.heap.size i wo.heap.size (q - (i + 1)) (c' - (i + 1)) u6 (T.take i) (T.drop (i + 1)) _ rfl rfl (by exact HO.out) (by exact HC.out) (by omega) hb2.size ?_; intro v3 w3 hown3 hgr3)
                go_roundw
                case rel =>
                  obtain ⟨A3, c3, rfl, hc3, ht3⟩ := own_tb' hown3
                  exact ⟨k + 1, _, A3, c3, by omega, by go_num, rfl, hc3, by rw [HF.out]; exact ht3, hb.trans (((below_drewN hb2 _).grown hgr3 (by exact hb2.size) (fun z hz => (HO.out.lt z hz).1)).mono hb.size)⟩
                case measure => simp [intOf]; omega
          · go_wp2
            go_quiet (fail)
            go_wp2_with (at_builtin; refine wpList_append_tb rfl (.tmp 33) (.tmp 38) rfl wo.heap.size i _ 1 1 u6 (T.take i) [(k1, v1)] _ rfl rfl (by exact World.ownsRow.alloc HO.out _) (by exact tb_new _ (k1, v1)) (by omega) (by have := hb2.size; simp; omega) ?_; intro v3 w3 hown3 hgr3)
            go_roundw
            case rel =>
              refine ⟨i + 1, by omega, by go_num, ?_, ?_, ?_⟩
              · rw [List.take_add_one, HP1.out]; exact hown3
              · exact ((below_drewN hb2 _).alloc (by exact hb2.size) _).grown hgr3 (by have := hb2.size; simp; omega) (fun z hz => (HO.out.lt z hz).1)
              · intro z p hz hp
                by_cases hzi : z = i
                · subst hzi; rw [HP1.out] at hp; cases hp; exact hlk
                · exact HLO.out z p (by omega) hp
            case measure => simp [intOf]; omega
        · have hiq2 : i = q := by omega
          have hpos : pos T key = i := pos_of (by rw [HQ.out]; omega) (fun z p hz hp => HLO.out z p hz hp) (fun p hp => by have := (List.getElem?_eq_some_iff.1 hp).1; rw [HQ.out] at this; omega)
          have hst := stepT_at (x := x) (g := g) hpos
          have ht2 := tail_end (T := T) (key := key) (i := i) (by rw [HQ.out]; omega)
          rw [ht2, HST.out, List.append_nil] at hst
          have HF := Lib.hid hst; clear hst ht2 hpos
          have HIQ := Lib.hid hiq2; clear hiq2
          have e0 : wr.cell? ⟨b, o + k * 3, none⟩ = some (.string key) := (hb2.cell (by have := hb.size; show b < _; omega)).trans c0
          have e1 : wr.cell? ⟨b, o + k * 3 + 1, none⟩ = some (.string x) := (hb2.cell (by have := hb.size; show b < _; omega)).trans c1
          have e2 : wr.cell? ⟨b, o + k * 3 + 2, none⟩ = some (.bool g) := (hb2.cell (by have := hb.size; show b < _; omega)).trans c2
          have h0 : (decide ((i : Int) < (q : Int))) = false := by simp; omega
          have hcut := (ht'.below hb2).cut (k := i) (by omega) hqc
          rw [List.drop_of_length_le (by rw [HQ.out]; omega)] at hcut
          have HC := Lib.hid hcut; clear hcut
          cases g
          · go_wp2
            go_quiet (fail)
            go_wp2_with fail
            go_region_law (refine step_append_tb rfl (.tmp 46) (.tmp 58) rfl wo.heap.size i _ 1 1 u6 (T.take i) [(key, x)] _ (by simp [Act.eval]) (by simp [Act.eval]; rfl) (by exact World.ownsRow.alloc HO.out _) (by exact tb_new _ (key, x)) (by omega) (by have := hb2.size; simp; omega) ?_; intro v2 w2 hown2 hgr2)
            all_goals
              have hb5 : Below wo.heap.size wr w2 := ((below_drewN (Below.refl _ wr) _).alloc (by exact hb2.size) _).grown hgr2 (by have := hb2.size; simp; omega) (fun z hz => (HO.out.lt z hz).1)
              have hcut4 := HC.out.below hb5
              have HO4 := Lib.hid hown2; clear hown2
              have HC4 := Lib.hid hcut4; clear hcut4
              go_wp2_with fail
              go_simp
              go_quiet (fail)
              go_wp2_with (at_builtin; go_must (refine wpList_append_tb rfl (.tmp 79) (.tmp 82) rfl wo.heap.size (i + 1) wo.heap.size (q - i) (c' - i) v2 (T.take i ++ [(key, x)]) [] _ rfl rfl (by exact HO4.out) (by exact HC4.out) (by omega) (by exact Nat.le_trans hb2.size hb5.size) ?_); intro v3 w3 hown3 hgr3)
              go_roundw
              case rel =>
                obtain ⟨A3, c3, rfl, hc3, ht3⟩ := own_tb' hown3
                refine ⟨k + 1, _, A3, c3, by omega, by go_num, rfl, hc3, by rw [HF.out]; simpa using ht3, hb.trans ((hb2.trans ((below_drewN hb5 _).grown hgr3 (by exact Nat.le_trans hb2.size hb5.size) (fun z hz => (HO4.out.lt z hz).1))).mono hb.size)⟩
              case measure => simp [intOf]; omega
          · go_wp2
            go_quiet (fail)
            go_wp2_with fail
            go_quiet (fail)
            go_wp2_with (at_builtin; go_must (refine wpList_append_tb rfl (.tmp 79) (.tmp 82) rfl wo.heap.size i wo.heap.size (q - i) (c' - i) u6 (T.take i) [] _ rfl rfl (by exact HO.out) (by exact HC.out) (by omega) hb2.size ?_); intro v3 w3 hown3 hgr3)
            go_roundw
            case rel =>
              obtain ⟨A3, c3, rfl, hc3, ht3⟩ := own_tb' hown3
              exact ⟨k + 1, _, A3, c3, by omega, by go_num, rfl, hc3, by rw [HF.out]; simpa using ht3, hb.trans (((below_drewN hb2 _).grown hgr3 (by exact hb2.size) (fun z hz => (HO.out.lt z hz).1)).mono hb.size)⟩
            case measure => simp [intOf]; omega
    · obtain rfl : k = m := by omega
      have htk : ws.take k = ws := List.take_of_length_le (by rw [HL.out]; omega)
      rw [htk] at ht'
      go_wp2
      go_ret
      exact ⟨A', q, c', rfl, hqc, ht', hb⟩

end Go.Proofs.Ytjgkiecepjlheaa
