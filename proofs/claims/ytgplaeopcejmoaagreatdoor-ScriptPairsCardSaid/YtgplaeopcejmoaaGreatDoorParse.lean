/- The walk of script.Parse. -/
import Derived.Test.YtgplaeopcejmoaaGreatDoorAdd
namespace Go.Proofs.YtgplaeopcejmoaaGreatDoor
open Go.RowKit Go.Shelf

theorem cut_hit (p r : Bs) (h : ∀ x ∈ p, x ≠ 10) : Lib.cut (p ++ 10 :: r) [10] = (p, r, true) := by
  unfold Lib.cut
  rw [index_pre 10 p r h]
  simp
theorem cut_miss (p : Bs) (h : ∀ x ∈ p, x ≠ 10) : Lib.cut p [10] = (p, [], false) := by
  unfold Lib.cut
  rw [index_lack 10 p h]
  simp
theorem cut_any (rest : Bs) (h : rest.length ≤ 4194304) (w : World) (henv : Env w) : Calls Tryz.prog 81 #[.string (txt rest), .string ⟨#[10]⟩] w fun e w' => e = .returned (.tuple #[.string (txt (Lib.cut rest [10]).1), .string (txt (Lib.cut rest [10]).2.1), .bool (Lib.cut rest [10]).2.2]) ∧ Below w.heap.size w w' := by
  obtain ⟨m, hm⟩ := henv.mxl
  have hz : (txt rest).size = rest.length := by rw [← bs_length, bs_txt]
  exact (Tryz.strings_Cut (txt rest) ⟨#[10]⟩ m w (by omega) hm).mono fun e w' ⟨he, n, hw⟩ => ⟨he, by rw [hw]; exact below_drewN (Below.refl _ _) n⟩
def strLen (v : Value) : Nat := match v with
  | .string s => s.size
  | _ => 0
def scrZV : Value := .agg (scrCells scrZ (.slice none 0 0)).toArray
def parseR (r : Except Nat Scr) (e : Ending) (w : World) : Prop := match r with
  | .error n => e = .returned (.tuple #[scrZV, .int .i64 n, .int .i64 4])
  | .ok s => ∃ pa pc, e = .returned (.tuple #[.agg (scrCells s (.slice pa s.acts.length pc)).toArray, .int .i64 0, .int .i64 0]) ∧ ActsAt w pa s.acts
theorem infoScr : (Tryz.prog.info? 63).map (·.size) = some 6 := by kernel_rfl
theorem results_row_tmp2 {P : Program} {fn : Func} {p u u2 : Tmp} {ty : TypeId} (h : fn.results = #[.cell p ty, .tmp u, .tmp u2]) (tmps : Array Value) (w : World) (g : Nat) (t : TypeId) (cs : Array Value) (fr : Nat × Nat) (d : TypeDesc)
    (hp : tmps.getD p undef = .pointer (some ⟨g, 0, none⟩)) (hg : w.heap[g]? = some (.cells cs t fr))
    (hu : P.underlying ty = some d) (hd : (match d with | .struct _ | .array _ _ => true | _ => false) = true) (hi : (P.info? ty).map (·.size) = some cs.size) :
    (results fn tmps).run P w = .ok (.tuple #[.agg cs, tmps.getD u undef, tmps.getD u2 undef]) w := by
  have e : (results fn tmps).run P w = ((asAddr (tmps.getD p undef)).run P w).andThen fun a w₁ => ((loadVar ty a).run P w₁).andThen fun v w₂ => .ok (.tuple #[v, tmps.getD u undef, tmps.getD u2 undef]) w₂ := by
    simp only [results, h]
    simp [Sem.run_bind, Result.andThen]
  rw [e, hp]
  simp [asAddr, run_loadVar_row w g t ty cs fr d hg hu hd hi, Result.andThen]
structure PRel (t : ByteArray) (w W : World) (k : Nat) (rest : Bs) (s : Scr) (v : Value) (l : List ArV) : Prop where
  below : Below w.heap.size w W
  res : Blk W w.heap.size 63 (scrCells scrZ (.slice none 0 0))
  st : PSt 0 (w.heap.size + 2) W (w.heap.size + 1) s.set v l
  acts : s.acts = l.map (·.1)
  len : l.length ≤ 65536
  left : parseT t = parseB k s (cutsL 10 rest)
  small : ∀ c ∈ cutsL 10 rest, c.length ≤ 1000000
  size : rest.length + k ≤ t.size
set_option maxRecDepth 100000 in
set_option maxHeartbeats 8000000 in
theorem parse_any (t : ByteArray) (ht : t.size ≤ 4194304) (hsm : ∀ c ∈ cutsL 10 (bs t), c.length ≤ 1000000) (w : World) (henv : Env w) :
    Calls Tryz.prog 36 #[.string t] w fun e w' => parseR (parseT t) e w' ∧ Below w.heap.size w w' := by
  have g0 : ¬ (4194304 : Int) < (t.size : Int) := by omega
  have HE := Lib.hid henv
  clear henv
  have h0 : PRel t w ((w.alloc (.cells (scrCells scrZ (.slice none 0 0)).toArray 63)).alloc (.cells (scrCells scrZ (.slice none 0 0)).toArray 63)) 0 (bs t) scrZ (.slice none 0 0) [] := by
    have hb := ((Below.refl w.heap.size w).alloc (Nat.le_refl _) (.cells (scrCells scrZ (.slice none 0 0)).toArray 63)).alloc (by simp) (.cells (scrCells scrZ (.slice none 0 0)).toArray 63)
    have h2 := Blk.new (w.alloc (.cells (scrCells scrZ (.slice none 0 0)).toArray 63)) 63 (scrCells scrZ (.slice none 0 0))
    rw [World.size_alloc] at h2
    exact ⟨hb, (Blk.new w 63 _).alloc _, ⟨h2, AcRow.nil _ _ _, Nat.zero_le _, by omega, by simp⟩, rfl, by simp, rfl, hsm, by rw [bs_length]; omega⟩
  have H0 := Lib.hid h0
  have hT := bs_length t
  clear h0 hsm
  go_enter Tryz.func36, Tryz.ntmps36
  go_wp2_with fail
  go_loopw [0, 6] (fun tx i wr => ∃ (k : Nat) (rest : Bs) (s : Scr) (v : Value) (l : List ArV), tx = .string (txt rest) ∧ i = .int .i64 k ∧ rest.length ≤ 4194304 ∧ k ≤ 4194304 ∧ Hid (PRel t w wr k rest s v l)) (fun tx _ _ => strLen tx)
  case atStart => exact ⟨0, bs t, scrZ, .slice none 0 0, [], by rw [txt_bs], rfl, by omega, by omega, H0⟩
  case round =>
    clear H0
    obtain ⟨k, rest, s, v, l, rfl, rfl, hrl, hkl, HR⟩ := hrel
    have hpk := HR.out
    obtain ⟨hbel, hres, hst, hac, hll, hleft, hsmall, hsize⟩ := hpk
    have hsz := hst.sz
    have HBEL := Lib.hid hbel; have HRES := Lib.hid hres; have HST := Lib.hid hst; have HAC := Lib.hid hac; have HLEFT := Lib.hid hleft; have HSM := Lib.hid hsmall
    clear hbel hres hst hac hleft hsmall HR
    cases rest with
    | nil =>
      have he : (txt []).toList.isEmpty = true := by rw [toList_bs]; rfl
      by_cases hk5 : k < 5
      · have gk : (k : Int) < 5 := by omega
        have hp : parseT t = .error k := by rw [HLEFT.out]; show parseB k s [[]] = _; rw [parseB, if_neg (by omega)]
        have HP := Lib.hid hp
        clear hp
        go_wp2_with (refine wpList_store_row rfl 63 (.tmp 2) (.tmp 37) rfl w.heap.size (scrCells scrZ (.slice none 0 0)).toArray rfl rfl 63 _ HRES.out infoScr rfl (by simp [scrCells, Value.oneCell']) ?_)
        refine bodyPost_ret (results_row_tmp2 rfl _ _ w.heap.size 63 (scrCells scrZ (.slice none 0 0)).toArray (0, 0) _ rfl (HRES.out.set (scrCells scrZ (.slice none 0 0))) Tryz.underlying63 rfl infoScr) rfl ?_
        exact ⟨by rw [HP.out]; rfl, below_setRow HBEL.out (Nat.le_refl _) _⟩
      · have gk : ¬ (k : Int) < 5 := by omega
        have hp : parseT t = .ok s := by rw [HLEFT.out]; show parseB k s [[]] = _; rw [parseB, if_pos ⟨rfl, by omega⟩]
        have HP := Lib.hid hp
        clear hp
        obtain ⟨pa, pc, rfl, hat⟩ := HST.out.row.at
        have hr : wr.rangeAt (w.heap.size + 1) 0 (scrCells ⟨s.set, []⟩ (.slice pa l.length pc)) := fun j u hu => by rw [Nat.zero_add]; exact (HST.out.box.cell j).trans hu
        have HR := Lib.hid hr
        have hsl : s.acts.length = l.length := by rw [HAC.out, List.length_map]
        have HSL := Lib.hid hsl
        clear hr hat hsl
        go_wp2_with (first
          | (refine wpList_load_mid rfl 63 (.tmp 5) rfl (w.heap.size + 1) 0 rfl (scrCells ⟨s.set, []⟩ (.slice pa l.length pc)) _ HR.out Tryz.underlying63 rfl infoScr ?_)
          | (refine wpList_store_row rfl 63 (.tmp 2) (.tmp 39) rfl w.heap.size (scrCells ⟨s.set, []⟩ (.slice pa l.length pc)).toArray rfl rfl 63 _ HRES.out infoScr rfl (by simp [scrCells, Value.oneCell']) ?_))
        refine bodyPost_ret (results_row_tmp2 rfl _ _ w.heap.size 63 (scrCells ⟨s.set, []⟩ (.slice pa l.length pc)).toArray (0, 0) _ rfl (HRES.out.set (scrCells ⟨s.set, []⟩ (.slice pa l.length pc))) Tryz.underlying63 rfl infoScr) rfl ?_
        refine ⟨?_, below_setRow HBEL.out (Nat.le_refl _) _⟩
        rw [HP.out]
        have hrow : AcRow (wr.setRow w.heap.size (scrCells ⟨s.set, []⟩ (.slice pa l.length pc)).toArray) 0 (w.heap.size + 2) (.slice pa l.length pc) l := HST.out.row.turn (grownBy_setRow _ _ _) (fun i e => by injection e with e; omega)
        obtain ⟨pa', pc', e', hat'⟩ := hrow.at
        injection e' with e1 e2 e3
        subst e1 e3
        refine ⟨pa, pc, ?_, by rw [HAC.out]; exact hat'⟩
        rw [HSL.out]; rfl
    | cons c0 r0 =>
      have he : (txt (c0 :: r0)).toList.isEmpty = false := by rw [toList_bs]; rfl
      generalize hrest : c0 :: r0 = rest at *
      have hrne : rest ≠ [] := by rw [← hrest]; simp
      clear hrest
      have hcut := fun W he => cut_any rest hrl W he
      have HC := Lib.hid hcut
      clear hcut
      rcases first_at 10 rest with hno | ⟨p, r, hpr, hno⟩
      · have hp : parseT t = .error k := by rw [HLEFT.out, cutsL_end 10 rest hno, parseB, if_neg (fun h => hrne h.1)]
        have HP := Lib.hid hp
        rw [cut_miss rest hno] at HC
        clear hp hrne hno
        go_wp2_with (first
          | (go_at_call 81; refine (HC.out _ (HE.out.below HBEL.out)).mono ?_; rintro e w1 ⟨rfl, hb1⟩; have hres1 := HRES.out.below hb1 HRES.out.lt)
          | (refine wpList_store_row rfl 63 (.tmp 2) (.tmp 32) rfl w.heap.size (scrCells scrZ (.slice none 0 0)).toArray rfl rfl 63 _ hres1 infoScr rfl (by simp [scrCells, Value.oneCell']) ?_))
        refine bodyPost_ret (results_row_tmp2 rfl _ _ w.heap.size 63 (scrCells scrZ (.slice none 0 0)).toArray (0, 0) _ rfl (hres1.set (scrCells scrZ (.slice none 0 0))) Tryz.underlying63 rfl infoScr) rfl ?_
        exact ⟨by rw [HP.out]; rfl, below_setRow (HBEL.out.trans (hb1.mono HBEL.out.size)) (Nat.le_refl _) _⟩
      · subst hpr
        rw [cut_hit p r hno] at HC
        have hps : (txt p).size ≤ 1000000 := by
          rw [← bs_length, bs_txt]
          exact HSM.out p (by rw [cutsL_at 10 p r hno]; simp)
        have hleft2 : parseT t = parseB k s (p :: cutsL 10 r) := by rw [HLEFT.out, cutsL_at 10 p r hno]
        have hsm2 : ∀ c ∈ cutsL 10 r, c.length ≤ 1000000 := fun c hc => HSM.out c (by rw [cutsL_at 10 p r hno]; simp [hc])
        have hadd : ∀ W, PSt 0 (w.heap.size + 2) W (w.heap.size + 1) s.set v l → Env W → Calls Tryz.prog 82 #[.pointer (some ⟨w.heap.size + 1, 0, none⟩), .int .i64 k, .string (txt p)] W fun e w' => addR 0 (w.heap.size + 2) (w.heap.size + 1) (stepP k ⟨s.set, l.map (·.1)⟩ (txt p)) e w' ∧ Below (w.heap.size + 1) W w' := fun W h he => by
          by_cases hk5 : k < 5
          · exact add_set k hk5 (txt p) hps (w.heap.size + 1) _ _ _ (Nat.le_refl _) _ _ _ W h he
          · exact add_act k (by omega) (txt p) hps (w.heap.size + 1) _ _ _ (Nat.le_refl _) _ _ _ hll W h he
        rw [show (⟨s.set, l.map (·.1)⟩ : Scr) = s by rw [← HAC.out]] at hadd
        have HADD := Lib.hid hadd
        have HL2 := Lib.hid hleft2
        have HS2 := Lib.hid hsm2
        clear hadd hleft2 hsm2 hps hno hrne HLEFT HSM
        cases hs : stepP k s (txt p) with
        | none =>
          rw [hs] at HADD
          have hp : parseT t = .error k := by rw [HL2.out, parseB_bad (cutsL_ne _ _) hs]
          have HP := Lib.hid hp
          clear hp hs
          go_wp2_with (first
            | (go_at_call 81; refine (HC.out _ (HE.out.below HBEL.out)).mono ?_; rintro e w1 ⟨rfl, hb1⟩; have hres1 := HRES.out.below hb1 HRES.out.lt; have hbel1 := HBEL.out.trans (hb1.mono HBEL.out.size))
            | (go_at_call 82; refine (HADD.out _ (HST.out.below hb1) (HE.out.below hbel1)).mono ?_; rintro e w2 ⟨rfl, hb2⟩; have hres2 := hres1.below hb2 (Nat.lt_succ_self _); have hbel2 := hbel1.trans (hb2.mono (Nat.le_succ _)))
            | (refine wpList_store_row rfl 63 (.tmp 2) (.tmp 32) rfl w.heap.size (scrCells scrZ (.slice none 0 0)).toArray rfl rfl 63 _ hres2 infoScr rfl (by simp [scrCells, Value.oneCell']) ?_))
          refine bodyPost_ret (results_row_tmp2 rfl _ _ w.heap.size 63 (scrCells scrZ (.slice none 0 0)).toArray (0, 0) _ rfl (hres2.set (scrCells scrZ (.slice none 0 0))) Tryz.underlying63 rfl infoScr) rfl ?_
          exact ⟨by rw [HP.out]; rfl, below_setRow hbel2 (Nat.le_refl _) _⟩
        | some s2 =>
          rw [hs] at HADD
          have hp : parseT t = parseB (k + 1) s2 (cutsL 10 r) := by rw [HL2.out, parseB_step (cutsL_ne _ _) hs]
          have HP := Lib.hid hp
          have hl2 : s2.acts.length ≤ 65536 := by
            have hsl : s.acts.length = l.length := by rw [HAC.out, List.length_map]
            by_cases hk5 : k < 5
            · obtain ⟨v', _, _, e, _⟩ := step_set hk5 hs
              rw [e]; simp only; omega
            · obtain ⟨a', _, hne, e⟩ := step_act (by omega) hs
              rw [e]; simp only [List.length_append, List.length_singleton]; omega
          clear hp hs
          have hlen : (p ++ 10 :: r).length = p.length + (r.length + 1) := by simp
          rw [hlen] at hrl hsize
          go_wp2_with (first
            | (go_at_call 81; refine (HC.out _ (HE.out.below HBEL.out)).mono ?_; rintro e w1 ⟨rfl, hb1⟩; have hres1 := HRES.out.below hb1 HRES.out.lt; have hbel1 := HBEL.out.trans (hb1.mono HBEL.out.size))
            | (go_at_call 82; refine (HADD.out _ (HST.out.below hb1) (HE.out.below hbel1)).mono ?_; rintro e w2 ⟨⟨rfl, v2, l2, hac2, hst2⟩, hb2⟩; have hres2 := hres1.below hb2 (Nat.lt_succ_self _); have hbel2 := hbel1.trans (hb2.mono (Nat.le_succ _))))
          go_roundw
          case rel =>
            refine ⟨k + 1, r, s2, v2, l2, rfl, by go_num, by omega, by omega, Lib.hid ⟨hbel2, hres2, hst2, hac2, ?_, HP.out, HS2.out, by omega⟩⟩
            have : l2.length = s2.acts.length := by rw [hac2, List.length_map]
            omega
          case measure =>
            have e1 : ∀ x : Bs, (txt x).size = x.length := fun x => by rw [← bs_length, bs_txt]
            simp [strLen, e1]; omega
set_option maxRecDepth 100000 in
set_option maxHeartbeats 1000000 in
theorem parse_long (t : ByteArray) (ht : 4194304 < t.size) (w : World) : Calls Tryz.prog 36 #[.string t] w fun e w' => e = .returned (.tuple #[scrZV, .int .i64 0, .int .i64 3]) ∧ Below w.heap.size w w' := by
  have g0 : (4194304 : Int) < (t.size : Int) := by omega
  have hB := Blk.new w 63 (scrCells scrZ (.slice none 0 0))
  have hb : Below w.heap.size w (w.alloc (.cells (scrCells scrZ (.slice none 0 0)).toArray 63)) := (Below.refl _ w).alloc (Nat.le_refl _) _
  go_enter Tryz.func36, Tryz.ntmps36
  go_wp2_with (refine wpList_store_row rfl 63 (.tmp 2) (.tmp 13) rfl w.heap.size (scrCells scrZ (.slice none 0 0)).toArray rfl rfl 63 _ hB infoScr rfl (by simp [scrCells, Value.oneCell']) ?_)
  refine bodyPost_ret (results_row_tmp2 rfl _ _ w.heap.size 63 (scrCells scrZ (.slice none 0 0)).toArray (0, 0) _ rfl (hB.set (scrCells scrZ (.slice none 0 0))) Tryz.underlying63 rfl infoScr) rfl ?_
  exact ⟨rfl, below_setRow hb (Nat.le_refl _) _⟩
end Go.Proofs.YtgplaeopcejmoaaGreatDoor
