/- The law's lines and wrong; the document's Split at great texts; appends of acts that may be none. -/
import Derived.Test.YtgplaeopcejmoaaGreatDoorWeavet
namespace Go.Proofs.YtgplaeopcejmoaaGreatDoor
open Go.RowKit Go.Shelf

set_option maxRecDepth 100000 in
set_option maxHeartbeats 1000000 in
theorem split_big (s : ByteArray) (c : UInt8) (hs : s.size ≤ 4000000) (hn : (cutsL c (bs s)).length ≤ 90000) (w : World) :
    Calls Tryz.prog 24 #[.string s, .int .u8 c.toNat] w fun e w' => (∃ v, e = .returned v ∧ OwnS w' w.heap.size v (splitT c s)) ∧ Below w.heap.size w w' := by
  go_enter Tryz.func24, Tryz.ntmps24
  go_wp2
  go_loopw [5, 6, 7] (fun v f i wr => Below w.heap.size w wr ∧ ((∃ (a b : Nat) (acc : List Bs), i = .int .i64 b ∧ f = .int .i64 a ∧ b ≤ s.size ∧ a ≤ b ∧ acc.length ≤ a ∧ Go.RowKit.Hid (cutsL c (bs s) = acc ++ cutsL c ((bs s).drop a)) ∧ Go.RowKit.Hid (∀ x ∈ ((bs s).drop a).take (b - a), x ≠ c) ∧ Go.RowKit.Hid (OwnS wr w.heap.size v (acc.map txt))) ∨ (i = .int .i64 ((s.size : Int) + 1) ∧ Go.RowKit.Hid (OwnS wr w.heap.size v (splitT c s))))) (fun _ _ i _ => s.size + 1 - (intOf i).toNat)
  case atStart => exact ⟨Below.refl _ _, .inl ⟨0, 0, [], rfl, rfl, by omega, by omega, by simp, Lib.hid (by simp), Lib.hid (by simp), Lib.hid (OwnS.nil _ _)⟩⟩
  case round =>
    obtain ⟨hb, ⟨a, b, acc, rfl, rfl, hbs, hab, hal, HC, HP, HO⟩ | ⟨rfl, HO⟩⟩ := hrel
    · have hbz := hb.size
      have hacc : acc.length ≤ 90000 := by
        have := congrArg List.length HC.out
        rw [List.length_append] at this; omega
      by_cases hlt : b < s.size
      · have hc := bs_get hlt
        obtain ⟨x, hxs⟩ : ∃ x : UInt8, s[b] = x := ⟨_, rfl⟩
        rw [hxs] at hc
        have hci : ∀ h, s[b]'h = x := fun _ => hxs
        clear hxs
        have HX := Lib.hid hc; clear hc
        have hne : ((b : Int) == (s.size : Int)) = false := beq_eq_false_iff_ne.2 (by omega)
        cases hxc : ((x.toNat : Int) == (c.toNat : Int))
        · have hx := u8_ne hxc
          have HXC := Lib.hid hx; clear hx
          go_wp2
          go_roundw
          case rel => exact ⟨hb, .inl ⟨a, b + 1, acc, by go_num, rfl, by omega, by omega, hal, HC, Lib.hid (take_more hab HX.out HXC.out HP.out), HO⟩⟩
          case measure => simp [intOf]; omega
        · have hx := u8_eq hxc
          have HXC := Lib.hid hx; clear hx
          go_wp2_with (at_builtin; refine wpList_append_s rfl (.tmp 25) (.tmp 30) rfl w.heap.size u5 (acc.map txt) ⟨wr.heap.size, 0, none⟩ 1 1 [s.extract a b] rfl rfl (by exact World.ownsRow.alloc HO.out _) (by simp; omega) (by simp; omega) rfl (by omega) (by intro j u hu; exact news_s wr [s.extract a b] j u hu) ?_; intro v3 w3 hown3 hgr3)
          rw [map_snoc rfl] at hown3
          have hb3 : Below w.heap.size w w3 := ((hb.alloc hbz _)).grown hgr3 (by simp; omega) (fun z hz => own_size HO.out z hz)
          go_roundw
          case rel =>
            have e1 := drop_split hab HX.out
            have e2 := HC.out
            rw [e1, HXC.out, cutsL_at c _ _ HP.out] at e2
            exact ⟨hb3, .inl ⟨b + 1, b + 1, _, by go_num, by go_num, by omega, by omega, by simp; omega, Lib.hid (by rw [e2]; simp), Lib.hid (by simp), Lib.hid hown3⟩⟩
          case measure => simp [intOf]; omega
      · obtain rfl : b = s.size := by omega
        go_wp2_with (at_builtin; refine wpList_append_s rfl (.tmp 25) (.tmp 30) rfl w.heap.size u5 (acc.map txt) ⟨wr.heap.size, 0, none⟩ 1 1 [s.extract a s.size] rfl rfl (by exact World.ownsRow.alloc HO.out _) (by simp; omega) (by simp; omega) rfl (by omega) (by intro j u hu; exact news_s wr [s.extract a s.size] j u hu) ?_; intro v3 w3 hown3 hgr3)
        rw [map_snoc rfl] at hown3
        have hb3 : Below w.heap.size w w3 := ((hb.alloc hbz _)).grown hgr3 (by simp; omega) (fun z hz => own_size HO.out z hz)
        go_roundw
        case rel =>
          have e1 : ((bs s).drop a).take (s.size - a) = (bs s).drop a := List.take_of_length_le (by rw [List.length_drop, bs_length]; exact Nat.le_refl _)
          have e2 := HC.out
          have e3 := HP.out
          rw [e1] at e3 hown3
          rw [cutsL_end c _ e3] at e2
          refine ⟨hb3, .inr ⟨by go_num, Lib.hid ?_⟩⟩
          unfold splitT
          rw [e2]; exact hown3
        case measure => simp [intOf]
    · go_wp2
      go_ret
      exact ⟨⟨_, rfl, HO.out⟩, hb⟩

theorem lnB_next {l : List ByteArray} {k : Nat} {x : ByteArray} (h : l[k]? = some x) : lnB (l.take (k + 1)) = lnB (l.take k) ++ (bs x ++ [10]) := by
  rw [List.take_add_one, h]; exact lnB_snoc _ _
theorem txt_cat (l : Bs) (x : ByteArray) : (txt l ++ x ++ ⟨#[10]⟩ : ByteArray) = txt (l ++ (bs x ++ [10])) := by
  apply bs_inj
  rw [bs_txt]
  simp
  exact bs_txt l
set_option maxRecDepth 100000 in
set_option maxHeartbeats 1000000 in
theorem lines_any (l : List ByteArray) (pa : Option Addr) (c : Nat) (w : World) (hA : StrAt w pa l) (hn : l.length ≤ 100000) (hz : (lnB l).length ≤ 4000000) :
    Calls Tryz.prog 40 #[.slice pa l.length c] w fun e w' => e = .returned (.string (txt (lnB l))) ∧ Below w.heap.size w w' := by
  have HA := Lib.hid hA
  clear hA
  go_enter Tryz.func40, Tryz.ntmps40
  go_wp2
  go_loopw [3, 4] (fun s i wr => ∃ k : Nat, k ≤ l.length ∧ i = .int .i64 k ∧ s = .string (txt (lnB (l.take k))) ∧ Below w.heap.size w wr) (fun _ i _ => l.length - (intOf i).toNat)
  case atStart => exact ⟨0, by omega, rfl, rfl, Below.refl _ _⟩
  case round =>
    obtain ⟨k, hk, rfl, rfl, hb⟩ := hrel
    by_cases hlt : k < l.length
    · have hne : l ≠ [] := fun e => by rw [e] at hlt; simp at hlt
      obtain ⟨x, hx⟩ : ∃ x, l[k]? = some x := ⟨_, List.getElem?_eq_getElem hlt⟩
      obtain ⟨g, o, rfl, hg, hc⟩ := HA.out.below hb hne
      have hcx := hc k x hx
      have hT := lnB_next hx
      have hz1 := lnB_take_le l (k + 1)
      have hTl := congrArg List.length hT
      rw [List.length_append, List.length_append, bs_length] at hTl
      have HT := Lib.hid hT
      have hzt := txt_size (lnB (l.take k))
      have hlt2 : (k : Int) < (l.length : Int) := by omega
      clear hc hx hne hT
      generalize hTT : txt (lnB (l.take k)) = t at *
      have HTT := Lib.hid hTT
      clear hTT
      have hl1 : ([10] : Bs).length = 1 := rfl
      have g1 : ¬ 9223372036854775807 < t.size + x.size := by omega
      have g2 : ¬ 9223372036854775807 < t.size + x.size + 1 := by omega
      clear hz1 hTl hzt hl1
      go_wp2
      go_roundw
      case rel => exact ⟨k + 1, by omega, by go_num, by rw [HT.out, ← txt_cat, HTT.out], hb⟩
      case measure => simp [intOf]; omega
    · obtain rfl : k = l.length := by omega
      have hlt2 : ¬ (l.length : Int) < (l.length : Int) := by omega
      go_wp2
      go_ret
      exact ⟨by simp, hb⟩

set_option maxRecDepth 100000 in
set_option maxHeartbeats 2000000 in
theorem wrong_any (t : ByteArray) (k : Nat) (hp : parseT t = .error k) (ht : t.size ≤ 4194304) (hsm : ∀ c ∈ cutsL 10 (bs t), c.length ≤ 1000000) (w : World) (henv : Env w) :
    Calls Tryz.prog 41 #[.string t, .int .i64 k] w fun e w' => e = .returned (.bool true) ∧ Below w.heap.size w w' := by
  have hpar : ∀ W, Env W → Calls Tryz.prog 36 #[.string t] W fun e w' => e = .returned (.tuple #[.agg #[.int .i64 0, .int .i64 0, .int .i64 0, .int .i64 0, .int .i64 0, .slice none 0 0], .int .i64 k, .int .i64 4]) ∧ Below W.heap.size W w' := fun W hE => (parse_any t ht hsm W hE).mono fun e w' ⟨h1, h2⟩ => by
    rw [hp] at h1
    exact ⟨h1, h2⟩
  have hsame : ∀ W, Calls Tryz.prog 34 #[.agg #[.int .i64 0, .int .i64 0, .int .i64 0, .int .i64 0, .int .i64 0, .slice none 0 0], .agg #[.int .i64 0, .int .i64 0, .int .i64 0, .int .i64 0, .int .i64 0, .slice none 0 0]] W fun e w' => e = .returned (.bool true) ∧ Below W.heap.size W w' := fun W =>
    (refsames_any scrZ scrZ none none 0 0 W (by simp [scrZ]) (fun a ha => by cases ha) (fun a ha => by cases ha) (ActsAt.nil _ _) (ActsAt.nil _ _)).mono fun e w' ⟨⟨r, he, hr⟩, h2⟩ => ⟨by rw [he, hr.2 rfl], h2⟩
  have HPar := Lib.hid hpar
  have HS := Lib.hid hsame
  have HE := Lib.hid henv
  clear hpar hsame hp ht hsm henv
  have hkk : ((k : Int) == (k : Int)) = true := by simp
  go_enter Tryz.func41, Tryz.ntmps41
  go_wp2_with fail
  refine (HPar.out _ HE.out).mono ?_
  rintro e w1 ⟨rfl, hb1⟩
  go_wp2_with (first
    | (go_at_call 34; refine (HS.out _).mono ?_; rintro e w2 ⟨rfl, hb2⟩)
    | (go_at_call 14; refine (num_any _ _).mono ?_; rintro e wq ⟨rfl, rfl⟩))
  go_ret
  exact ⟨rfl, by
    have h1 := hb1.alloc hb1.size (.cells #[.int .i64 0, .int .i64 0, .int .i64 0, .int .i64 0, .int .i64 0, .slice none 0 0] 63)
    exact h1.trans (hb2.mono h1.size)⟩

theorem append_a0 (w : World) (B base : Nat) (v : Value) (l : List ArV) (h : AcRow w B base v l) (c : Nat) (ty : TypeId) :
    (∀ cs, (builtin .append #[61, 61] ty cs #[v, .slice none 0 c]).run Tryz.prog w = .ok (.value v) w) := by
  intro cs
  obtain ⟨i0, hi0, hz0, hz1, hz2⟩ := info_act
  have hr : (Builtin.append_ #[61, 61] ty #[v, .slice none 0 c]).run Tryz.prog w = .ok v w := by
    rcases h.own.2 with ⟨rfl, _⟩ | ⟨g, cap, cur, rfl, _, _, hnc, _⟩
    · simp [Builtin.append_, run_underlying Tryz.underlying61, sizeOf, typeInfo, hi0, Builtin.lenOf, Builtin.firstCells]
    · simp [Builtin.append_, run_underlying Tryz.underlying61, sizeOf, typeInfo, hi0, Builtin.lenOf, Builtin.firstCells, hnc, storeCells]
  simp only [builtin, Sem.run_bind, hr, Result.andThen_ok, Sem.run_pure]
/-- picks that lie ahead of a block -/
def PkLow (base : Nat) (l : List ArV) : Prop := ∀ x ∈ l, x.1.picks ≠ [] → ∃ g o, x.2.1 = some ⟨g, o, none⟩ ∧ g < base
theorem PkLow.nil (base : Nat) : PkLow base [] := fun x hx => by cases hx
theorem acrow_ne {w : World} {B base k : Nat} {v : Value} {l : List ArV} {ob : Obj} (ho : AcRow w B base v l) (hk : w.heap[k]? = some ob) (hob : ∀ cur, ob ≠ .cells cur 39 (0, 0)) : some k ≠ v.ownBlock := by
  intro e
  rcases ho.own.2 with ⟨rfl, _⟩ | ⟨g, cap, cur, rfl, _, hg, _⟩
  · simp [Value.ownBlock] at e
  · obtain rfl : k = g := by simpa [Value.ownBlock] using e
    rw [hk] at hg
    exact hob cur (Option.some.inj hg)
theorem AcRow.low {w w' : World} {B base q : Nat} {v : Value} {l : List ArV} (h : AcRow w B base v l) (hlow : PkLow base l) (hg : w.grownBy w' (some q)) (hq : base ≤ q) (hne : some q ≠ v.ownBlock) : AcRow w' B base v l :=
  ⟨World.ownsRow.kept h.own hg (.inr (fun e => hne e.symm)), fun x hx hl => by
    obtain ⟨g, o, e, h1, h2, h3, h4⟩ := h.pk x hx hl
    obtain ⟨g2, o2, e2, h5⟩ := hlow x hx hl
    rw [e] at e2
    injection e2 with e2
    injection e2 with e2 e3
    subst e2
    have hh := hg.block g h2 (fun e => by injection e with e; omega)
    exact ⟨g, o, e, h1, Nat.lt_of_lt_of_le h2 hg.size, h3, fun j n hn => by
      rw [World.cell?_of_block (a := ⟨g, o + j, none⟩) hh]
      exact h4 j n hn⟩⟩
/-- acts of the caller's, appended to acts of the call's own -/
theorem append_at (w : World) (base : Nat) (v : Value) (l : List ArV) (h : AcRow w base base v l) (hn : l.length ≤ 1000000) (hbase : base ≤ w.heap.size) (pa : Option Addr) (c : Nat) (m : Nat) (news : List Ar) (hm : m = news.length) (hn2 : m ≤ 1000000)
    (w0 : World) (hw0 : w0.heap.size ≤ base) (hA0 : ActsAt w0 pa news) (hb0 : Below w0.heap.size w0 w) (hlow : PkLow base l) (ty : TypeId) :
    ∃ v' w' l', PkLow base l' ∧ (∀ cs, (builtin .append #[61, 61] ty cs #[v, .slice pa m c]).run Tryz.prog w = .ok (.value v') w') ∧ l'.map (·.1) = l.map (·.1) ++ news ∧ l'.length = l.length + news.length ∧ AcRow w' base base v' l' ∧ w.grownBy w' v.ownBlock := by
  subst hm
  by_cases hne : news = []
  · subst hne
    cases pa with
    | none => exact ⟨v, w, l, hlow, append_a0 w base base v l h c ty, by simp, by simp, h, grownBy_of_below _ (Below.refl w.heap.size w) (Nat.le_refl _)⟩
    | some ad =>
      obtain ⟨v', w', h1, h2, h3⟩ := append_a w base base v l h hn hbase ad 0 c [] rfl (by omega) (fun j u hu => by cases hu) (fun x hx => by cases hx) ty
      exact ⟨v', w', l ++ [], by simpa using hlow, h1, by simp, by simp, h2, h3⟩
  · obtain ⟨g, o, rfl, hg, hc⟩ := hA0 hne
    obtain ⟨vs, hvl, hvs⟩ := list_of (P := fun i (x : ArV) => news[i]? = some x.1 ∧ w0.rangeAt g (o + i * 12) (actCells x.1 (arvV x)) ∧ PkAt w0 x.2.1 x.1.picks) news.length (fun i hi => by
      obtain ⟨pa2, pc2, hr, hp⟩ := hc i news[i] (List.getElem?_eq_getElem hi)
      exact ⟨(news[i], pa2, pc2), List.getElem?_eq_getElem hi, hr, hp⟩)
    have hmap : vs.map (·.1) = news := by
      apply List.ext_getElem?
      intro i
      rw [List.getElem?_map]
      cases hv : vs[i]? with
      | none =>
        have := List.getElem?_eq_none_iff.1 hv
        rw [List.getElem?_eq_none (by omega)]; rfl
      | some x => exact ((hvs i x hv).1).symm
    obtain ⟨v', w', h1, h2, h3⟩ := append_a w base base v l h hn hbase ⟨g, o, none⟩ news.length c vs hvl.symm hn2 (fun j u hu => by
        have hj := (List.getElem?_eq_some_iff.1 hu).1
        rw [cellsA_len] at hj
        have hq : j / 12 < vs.length := by omega
        obtain ⟨h5, h6, h7⟩ := hvs (j / 12) vs[j / 12] (List.getElem?_eq_getElem hq)
        have hr : j % 12 < 12 := Nat.mod_lt _ (by decide)
        have hal : j % 12 < (actCells vs[j / 12].1 (arvV vs[j / 12])).length := hr
        obtain ⟨u2, hu2⟩ : ∃ u2, (actCells vs[j / 12].1 (arvV vs[j / 12]))[j % 12]? = some u2 := ⟨_, List.getElem?_eq_getElem hal⟩
        have h8 := cellsA_at vs (j / 12) vs[j / 12] (List.getElem?_eq_getElem hq) (j % 12) u2 hu2
        rw [show j / 12 * 12 + j % 12 = j by omega] at h8
        rw [h8] at hu
        injection hu with hu
        subst hu
        rw [Addr.add_lit]
        have h9 := h6 (j % 12) u2 hu2
        rw [show o + j / 12 * 12 + j % 12 = o + j by omega] at h9
        exact (hb0.cell (p := ⟨g, o + j, none⟩) hg).trans h9) (fun x hx hl => by
        obtain ⟨i, hi, rfl⟩ := List.mem_iff_getElem.1 hx
        obtain ⟨_, _, h7⟩ := hvs i _ (List.getElem?_eq_getElem hi)
        obtain ⟨g2, o2, e2, hg2, hc2⟩ := h7 hl
        refine ⟨g2, o2, e2, .inl (by omega), Nat.lt_of_lt_of_le hg2 hb0.size, fun e3 => ?_, fun j n hn => (hb0.cell (p := ⟨g2, o2 + j, none⟩) hg2).trans (hc2 j n hn)⟩
        have := h.lt g2 e3.symm
        omega) ty
    refine ⟨v', w', l ++ vs, fun x hx hl => ?_, h1, by rw [List.map_append, hmap], by rw [List.length_append, hvl], h2, h3⟩
    rcases List.mem_append.1 hx with hx | hx
    · exact hlow x hx hl
    · obtain ⟨i, hi, rfl⟩ := List.mem_iff_getElem.1 hx
      obtain ⟨_, _, h7⟩ := hvs i _ (List.getElem?_eq_getElem hi)
      obtain ⟨g2, o2, e2, hg2, _⟩ := h7 hl
      exact ⟨g2, o2, e2, by omega⟩
end Go.Proofs.YtgplaeopcejmoaaGreatDoor
