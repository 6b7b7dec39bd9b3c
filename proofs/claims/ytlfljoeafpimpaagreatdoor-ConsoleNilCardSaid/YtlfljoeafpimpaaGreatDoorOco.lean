/- Oracles of the evaluator: functions of Go's library: IndexByte, Count, numDigits, toError, Join. Oracles of the evaluator: copyCheck and String of strings.Builder. -/
import Derived.Test.YtlfljoeafpimpaaGreatDoorShl
import Derived.Test.YtlfljoeafpimpaaGreatDoorEvt
import Derived.Test.YtlfljoeafpimpaaGreatDoorEwd
import Derived.Test.YtlfljoeafpimpaaGreatDoorPur
import Derived.KernelRfl
import Derived.Shelf.Strings.Builder1
import Derived.Shelf.RegionOpenPlain
import Derived.Lib.UnsafeStr
namespace Go.Proofs.YtlfljoeafpimpaaGreatDoor
open Go.RowKit

/-! ### what is common -/
theorem gives_kept {B : Nat → Prop} {w0 w w' : World} {e : Nv} {h : Hp} {v : RV} (r : RepH B w0 e h w) (hb : Below w.heap.size w w') (hl : RV.lt h.nx v) : Gives B w0 e h v h (.returned (RV.tr e v)) w' :=
  ⟨e, Nv.ext.refl _ _, r.kept hb, Nat.le_refl _, hl, rfl⟩
theorem gives_same {B : Nat → Prop} {w0 w : World} {e : Nv} {h : Hp} {v : RV} (r : RepH B w0 e h w) (hl : RV.lt h.nx v) : Gives B w0 e h v h (.returned (RV.tr e v)) w :=
  ⟨e, Nv.ext.refl _ _, r, Nat.le_refl _, hl, rfl⟩
theorem gives_drewN {B : Nat → Prop} {w0 w : World} {e : Nv} {h : Hp} {v : RV} (r : RepH B w0 e h w) (n : Nat) (hl : RV.lt h.nx v) : Gives B w0 e h v h (.returned (RV.tr e v)) (w.drewN n) :=
  gives_kept r ⟨rfl, rfl, rfl, Nat.le_refl _, fun _ _ => rfl⟩ hl
/-- a name for a block that nobody asks -/
theorem RepH.bump {B : Nat → Prop} {w0 w : World} {e : Nv} {h : Hp} (r : RepH B w0 e h w) (a c : Nat) : RepH B w0 (e.put h.nx a c) ⟨h.nx + 1, h.ob⟩ w := by
  have hx := Nv.put_ext e h.nx a c
  have ha : ∀ i, (⟨h.nx + 1, h.ob⟩ : Hp).at? i = h.at? i := fun i => by simp only [Hp.at?]
  refine ⟨r.below, fun i o hi => ?_, fun i j x y hi hj hij => ?_, r.env⟩
  · rw [ha] at hi
    obtain ⟨h1, h2, h3, h4⟩ := r.obj i o hi
    have hat := (hx i h1).1
    refine ⟨Nat.lt_succ_of_lt h1, by rw [hat]; exact h2, ?_, RO.lt_mono (Nat.le_succ _) h4⟩
    rw [hat]
    exact RO.ok_ext hx h1 h4 h3
  · rw [ha] at hi hj
    have h1 := (r.obj i x hi).1
    have h2 := (r.obj j y hj).1
    rw [(hx i h1).1, (hx j h2).1] at hij
    exact r.inj i j x y hi hj hij

/-! ### IndexByte -/
def idxF (c : UInt8) : List UInt8 → Nat → Int
  | [], _ => .negSucc 0
  | b :: l, k => match b == c with
    | true => .ofNat k
    | false => idxF c l (k + 1)
theorem idxF_eq (c : UInt8) : ∀ (l : List UInt8) (k : Nat), idxF c l k = if Lib.indexByte l c = -1 then -1 else Lib.indexByte l c + k
  | [], k => rfl
  | b :: l, k => by
    have ih := idxF_eq c l (k + 1)
    have hge := Lib.indexByte_ge l c
    unfold idxF Lib.indexByte
    cases hb : b == c
    · simp only [Bool.false_eq_true, if_false]
      rw [ih]
      by_cases h1 : Lib.indexByte l c = -1
      · simp [h1]
      · simp only [h1, if_false, beq_iff_eq]
        split
        · omega
        · push_cast; omega
    · simp
noncomputable def idxO : OrcE := fun xs h => match xs with
  | [.lit (.string s), .lit (.int .u8 c)] => some (.lit (.int .i64 (idxF c.toNat.toUInt8 s.data.toList 0)), h)
  | [.rst x _, .lit (.int .u8 c)] => match x == c.toNat.toUInt8 with
    | false => some (.lit (.int .i64 (.negSucc 0)), h)
    | true => none
  | _ => none
theorem indexByte_rst (x c : UInt8) (hx : (x == c) = false) : ∀ k, Lib.indexByte (List.replicate k x) c = -1
  | 0 => rfl
  | k + 1 => by
    rw [List.replicate_succ]
    unfold Lib.indexByte
    simp [hx, indexByte_rst x c hx k]
theorem idxO_ok (B : Nat → Prop) (w0 : World) : OrcOk Tryz.prog B w0 67 idxO := by
  intro xs e h v h' w r hx hv
  refine ⟨⟨Tryz.f67, Tryz.func67, by kernel_rfl, by kernel_rfl⟩, ?_⟩
  unfold idxO at hv
  split at hv
  · rename_i s c
    injection hv with hv
    injection hv with e1 e2; subst e1 e2
    refine (Tryz.stringslite_IndexByte s c w).mono ?_
    rintro en w' ⟨rfl, rfl⟩
    have : idxF c.toNat.toUInt8 s.data.toList 0 = Lib.indexByte s.data.toList c.toNat.toUInt8 := by
      rw [idxF_eq]
      split
      · rename_i h1; rw [h1]
      · simp
    rw [← this]
    exact gives_same r trivial
  · rename_i x k c
    split at hv
    · rename_i hxc
      injection hv with hv
      injection hv with e1 e2; subst e1 e2
      refine (Tryz.stringslite_IndexByte ⟨⟨List.replicate k x⟩⟩ c w).mono ?_
      rintro en w' ⟨rfl, rfl⟩
      show Gives B w0 e h _ h (.returned (.int .i64 (Lib.indexByte (List.replicate k x) c.toNat.toUInt8))) w'
      rw [indexByte_rst x _ hxc k]
      exact gives_same (v := .lit (.int .i64 (.negSucc 0))) r trivial
    · cases hv
  · cases hv
/-! ### Count -/
noncomputable def cntO : OrcE := fun xs h => match xs with
  | [.lit (.string s), .lit (.string t)] => match t.data.toList with
    | [c] => some (.lit (.int .i64 (.ofNat (s.data.toList.count c))), h)
    | _ => none
  | _ => none
theorem cntO_ok (B : Nat → Prop) (w0 : World) : OrcOk Tryz.prog B w0 274 cntO := by
  intro xs e h v h' w r hx hv
  refine ⟨⟨Tryz.f274, Tryz.func274, by kernel_rfl, by kernel_rfl⟩, ?_⟩
  unfold cntO at hv
  split at hv
  · rename_i s t
    split at hv
    · rename_i c hc
      injection hv with hv
      injection hv with e1 e2; subst e1 e2
      obtain rfl : t = ⟨#[c]⟩ := by
        cases t with
        | mk d =>
          congr 1
          exact Array.ext' hc
      refine (Tryz.strings_Count_one s c w).mono ?_
      rintro en w' ⟨rfl, rfl⟩
      exact gives_same r trivial
    · cases hv
  · cases hv
/-! ### numDigits -/
def ndF : Nat → Nat → Nat
  | 0, _ => 1
  | k + 1, u => match Nat.ble 10 u with
    | true => ndF k (u / 10) + 1
    | false => 1
theorem ndF_eq : ∀ (k u : Nat), u < 10 ^ (k + 1) → ndF k u = Lib.nDigits u
  | 0, u, h => by rw [Lib.nDigits_small (by simpa using h)]; rfl
  | k + 1, u, h => by
    unfold ndF
    split
    · rename_i hb
      have := Nat.le_of_ble_eq_true hb
      rw [Lib.nDigits_big (by omega), ndF_eq k (u / 10) (by rw [Nat.pow_succ] at h; omega)]
    · rename_i hb
      have := not_ble hb
      rw [Lib.nDigits_small (by omega)]
noncomputable def ndO : OrcE := fun xs h => match xs with
  | [.lit (.int .u64 (.ofNat u))] => match Nat.ble 1 u, Nat.ble 18446744073709551616 u with
    | true, false => some (.lit (.int .i64 (.ofNat (ndF 19 u))), h)
    | _, _ => none
  | _ => none
theorem tab_now {w : World} (hw : EnvW w) : Lib.TabIs Tryz.prog w "internal/strconv.uint64pow10" .u64 Lib.pow10Tab := by
  obtain ⟨t, fr, h⟩ := (hw 1 (.inl rfl)).2.tab rfl
  have hg : Tryz.prog.globalNamed "internal/strconv.uint64pow10" = some 1 := by kernel_rfl
  unfold Lib.TabIs World.var?
  rw [hg]
  simp only [Option.bind_some, h]
theorem ndO_ok (B : Nat → Prop) (w0 : World) : OrcOk Tryz.prog B w0 115 ndO := by
  intro xs e h v h' w r hx hv
  refine ⟨⟨Tryz.f115, Tryz.func115, by kernel_rfl, by kernel_rfl⟩, ?_⟩
  unfold ndO at hv
  split at hv
  · rename_i u
    split at hv
    · rename_i h1 h2
      injection hv with hv
      injection hv with e1 e2; subst e1 e2
      have h1 := Nat.le_of_ble_eq_true h1
      have h2 := not_ble h2
      refine (Tryz.internal_strconv_numDigits u h1 h2 w (tab_now r.envW)).mono ?_
      rintro en w' ⟨rfl, rfl⟩
      rw [← ndF_eq 19 u (by omega)]
      exact gives_same r trivial
    · cases hv
  · cases hv
/-! ### toError -/
noncomputable def teO : OrcE := fun xs h => match xs with
  | [.lit (.string _), .lit (.string s), .lit (.int .i64 _), .lit (.int .i64 _), .ifc t (.lit (.int .i64 n))] => match Nat.beq t 272, n == 2, Nat.ble s.size 1000 with
    | true, true, true => some (.ifc 275 (.ptr h.nx 0), ⟨h.nx + 1, h.ob⟩)
    | _, _, _ => none
  | _ => none
theorem syn_now {w : World} (hw : EnvW w) : ∃ ev, w.cell? ⟨2, 0, none⟩ = some ev ∧ (ev = .nilIface ∨ ∃ te pe, ev = .iface te pe) := by
  obtain ⟨tp, p, t, fr, h⟩ := (hw 2 (.inr rfl)).2.syn rfl
  exact ⟨.iface tp p, by rw [cell_of_row w 2 0 _ _ _ h]; rfl, .inr ⟨_, _, rfl⟩⟩
theorem teO_ok (B : Nat → Prop) (w0 : World) : OrcOk Tryz.prog B w0 124 teO := by
  intro xs e h v h' w r hx hv
  refine ⟨⟨Tryz.f124, Tryz.func124, by kernel_rfl, by kernel_rfl⟩, ?_⟩
  unfold teO at hv
  split at hv
  · rename_i fn s b1 b2 t n
    split at hv
    · rename_i h1 h2 h3
      injection hv with hv
      injection hv with e1 e2; subst e1 e2
      obtain rfl := Nat.eq_of_beq_eq_true h1
      obtain rfl := eq_of_beq h2
      have h3 := Nat.le_of_ble_eq_true h3
      obtain ⟨ev, hev, hk⟩ := syn_now r.envW
      refine (Tryz.strconv_toError_syntax fn s b1 b2 ev w (by omega) hev hk).mono ?_
      rintro en w' ⟨N, rfl, hN, hb, hbel⟩
      refine ⟨e.put h.nx N 0, Nv.put_ext e h.nx N 0, (r.kept hbel).bump N 0, Nat.le_succ _, Nat.lt_succ_self _, ?_⟩
      simp only [RV.tr, Nv.put, if_true]
    · cases hv
  · cases hv
/-! ### Join -/
def strsE : List Seg → Option (List ByteArray)
  | [] => some []
  | .one (.lit (.string s)) :: r => (strsE r).map fun l => s :: l
  | _ => none
theorem strsE_tr (e : Nv) : ∀ {cs : List Seg} {l : List ByteArray}, strsE cs = some l → trS e cs = l.map Value.string
  | [], l, hv => by
    injection hv with hv; subst hv
    rfl
  | s :: r, l, hv => by
    unfold strsE at hv
    split at hv
    · rename_i h; cases h
    · rename_i s r' h
      injection h with h1 h2; subst h1 h2
      obtain ⟨q, hq, rfl⟩ := some_map hv
      rw [trS, strsE_tr e hq]
      rfl
    · cases hv
/-- a slice's length is no more than its capacity -/
def capE (h : Hp) : RV → Bool
  | .sl _ _ n c => Nat.ble n c
  | .slu b _ n d => roomy h b d n
  | _ => false
theorem capE_tr {B : Nat → Prop} {w0 w : World} {e : Nv} {h : Hp} (r : RepH B w0 e h w) {x : RV} {b o n : Nat} (hr : rowOf x = some (b, o, n)) (hc : capE h x = true) : ∃ c, RV.tr e x = .slice (some ⟨e.at_ b, o, none⟩) n c ∧ n ≤ c := by
  unfold rowOf at hr
  split at hr
  · injection hr with hr
    injection hr with h1 h2; injection h2 with h2 h3; subst h1 h2 h3
    exact ⟨_, rfl, Nat.le_of_ble_eq_true hc⟩
  · injection hr with hr
    injection hr with h1 h2; injection h2 with h2 h3; subst h1 h2 h3
    have := roomy_cap r hc
    exact ⟨_, rfl, by omega⟩
  · cases hr
noncomputable def joinO : OrcE := fun xs h => match xs with
  | [x, .lit (.string sep)] => match rowOf x, capE h x with
    | some (b, o, n), true => match h.at? b with
      | some y => match y.segs with
        | some (ss, _) => match strsE (takeS (dropS ss o) n), Nat.ble n 1000 with
          | some l, true => match Nat.beq l.length n, Nat.ble (Lib.join (l.map (·.data.toList)) sep.data.toList).length 1000000 with
            | true, true => some (.lit (.string ⟨(Lib.join (l.map (·.data.toList)) sep.data.toList).toArray⟩), h)
            | _, _ => none
          | _, _ => none
        | none => none
      | none => none
    | _, _ => none
  | _ => none
theorem joinO_ok (B : Nat → Prop) (w0 : World) : OrcOk Tryz.prog B w0 113 joinO := by
  intro xs e h v h' w r hx hv
  refine ⟨⟨Tryz.f113, Tryz.func113, by kernel_rfl, by kernel_rfl⟩, ?_⟩
  unfold joinO at hv
  split at hv
  · rename_i x sep
    split at hv
    · rename_i b o n hro hcp
      split at hv
      · rename_i y hy
        split at hv
        · rename_i ss t hss
          split at hv
          · rename_i l hl hn
            split at hv
            · rename_i hln hjl
              injection hv with hv
              injection hv with e1 e2; subst e1 e2
              obtain rfl := Nat.eq_of_beq_eq_true hln
              have hn := Nat.le_of_ble_eq_true hn
              have hjl := Nat.le_of_ble_eq_true hjl
              obtain ⟨c, hxt, hcap⟩ := capE_tr r hro hcp
              have hrd := r.read hy hss o l.length
              rw [strsE_tr e hl] at hrd
              have hargs : (trL e [x, .lit (.string sep)]).toArray = #[.slice (some ⟨e.at_ b, o, none⟩) l.length c, .string sep] := by
                simp only [trL, hxt]
                rfl
              rw [hargs]
              refine (Tryz.strings_Join (e.at_ b) o c l sep w (fun j z hz => ?_) (r.live hy) (by omega) hcap (by omega)).mono ?_
              · exact hrd j _ (by rw [List.getElem?_map, hz]; rfl)
              · rintro en w' ⟨rfl, hb⟩
                exact gives_kept (v := .lit (.string _)) r hb trivial
            · cases hv
          · cases hv
        · cases hv
      · cases hv
    · cases hv
  · cases hv
end Go.Proofs.YtlfljoeafpimpaaGreatDoor
namespace Go.Proofs.YtlfljoeafpimpaaGreatDoor
open Go.RowKit

/-! ### copyCheck -/
noncomputable def ccO : OrcE := fun xs h => match xs with
  | [.ptr b 0] => match h.at? b with
    | some (.cells [.one p, .one q] t) => match Nat.beq t 42, p with
      | true, .lit (.pointer none) => some (.lit (.tuple #[]), h.put b (.cells [.one (.ptr b 0), .one q] t))
      | true, .ptr c 0 => match Nat.beq c b with
        | true => some (.lit (.tuple #[]), h)
        | false => none
      | _, _ => none
    | _ => none
  | _ => none
theorem ccO_ok (B : Nat → Prop) (w0 : World) : OrcOk Tryz.prog B w0 25 ccO := by
  intro xs e h v h' w r hx hv
  refine ⟨⟨Tryz.f25, Tryz.func25, by kernel_rfl, by kernel_rfl⟩, ?_⟩
  unfold ccO at hv
  split at hv
  · rename_i b
    split at hv
    · rename_i p q t hb
      obtain ⟨sp, fr, hblk, hfz⟩ := r.blk hb rfl
      have hobj := r.obj b _ hb
      obtain ⟨fr2, hb2, hfz2⟩ := hobj.2.2.1
      have hcells : (trS e [.one p, .one q]).toArray = #[RV.tr e p, RV.tr e q] := rfl
      rw [hcells] at hb2
      have hargs : (trL e [.ptr b 0]).toArray = #[.pointer (some ⟨e.at_ b, 0, none⟩)] := rfl
      split at hv
      · rename_i ht
        obtain rfl := Nat.eq_of_beq_eq_true ht
        injection hv with hv
        injection hv with e1 e2; subst e1 e2
        have h0 : w.cell? ⟨e.at_ b, 0, none⟩ = some (.pointer none) := by rw [cell_of_row w _ 0 _ _ _ hb2]; rfl
        have hsh : w.shape? (e.at_ b) = some (42, 2) := by simp [World.shape?, hb2]
        have hfro : w.frozen? ⟨e.at_ b, 0, none⟩ = false := by
          obtain ⟨lo, hi⟩ := fr2
          simp only [World.frozen?, hb2, Bool.and_eq_false_iff, decide_eq_false_iff_not]
          rcases hfz2 with g0 | g0
          · right; injection g0 with g1 g2; omega
          · left; simp [lenS, Seg.len] at g0; omega
        rw [hargs]
        refine (Any.Builder_copyCheck_fresh Tryz.lays240 Tryz.Builder_X72_240 (e.at_ b) w h0 hsh hfro).mono ?_
        rintro en w' ⟨rfl, rfl⟩
        have hin := hobj.1
        refine ⟨e, Nv.ext.refl _ _, ?_, Nat.le_refl _, trivial, rfl⟩
        rw [setCell_eq_setRow w (e.at_ b) 0 _ _ fr2 _ hb2]
        refine r.setRow (L := [.pointer none, RV.tr e q]) (K := [.pointer (some ⟨e.at_ b, 0, none⟩), RV.tr e q]) (t := 42) (fr := fr2) hb hb2 ⟨fr2, rfl, hfz2⟩ ?_
        have hl := hobj.2.2.2
        exact ⟨hin, hl.2⟩
      · rename_i c ht
        obtain rfl := Nat.eq_of_beq_eq_true ht
        split at hv
        · rename_i hcb
          obtain rfl := Nat.eq_of_beq_eq_true hcb
          injection hv with hv
          injection hv with e1 e2; subst e1 e2
          have h0 : w.cell? ⟨e.at_ c, 0, none⟩ = some (.pointer (some ⟨e.at_ c, 0, none⟩)) := by rw [cell_of_row w _ 0 _ _ _ hb2]; rfl
          rw [hargs]
          refine (Any.Builder_copyCheck_used Tryz.lays240 Tryz.Builder_X72_240 (e.at_ c) w h0).mono ?_
          rintro en w' ⟨rfl, rfl⟩
          exact gives_same (v := .lit (.tuple #[])) r trivial
        · cases hv
      · cases hv
    · cases hv
  · cases hv

/-! ### String -/
set_option maxHeartbeats 1000000 in
set_option maxRecDepth 100000 in
theorem bstr_walk (b g cap N : Nat) (p : Value) (l : List UInt8) (tb : TypeId) (fb : Nat × Nat) (w : World) (hbk : w.heap[b]? = some (.cells #[p, .slice (some ⟨g, 0, none⟩) l.length cap] tb fb))
    (h0 : l ≠ []) (hnc : l.length ≤ cap) (hsh : w.shape? g = some (5, N)) (hN : l.length ≤ N) (h63 : l.length ≤ 9223372036854775807) (hcell : ∀ j x, l[j]? = some x → w.cell? ((⟨g, 0, none⟩ : Addr).add j) = some (.int .u8 x.toNat)) :
    Calls Tryz.prog 18 #[.pointer (some ⟨b, 0, none⟩)] w fun en w' => en = .returned (.string ⟨l.toArray⟩) ∧ w' = w.drew.freeze ⟨g, 0, none⟩ l.length := by
  have hl0 : l.length ≠ 0 := by simpa using h0
  have c1 : w.drew.cell? ⟨b, 1, none⟩ = some (.slice (some ⟨g, 0, none⟩) l.length cap) := by
    rw [cell_of_row w.drew b 1 _ _ _ hbk]; rfl
  have hSD : (Builtin.unsafeSliceData_ #[24] 62 #[.slice (some ⟨g, 0, none⟩) l.length cap]).run Tryz.prog w.drew = .ok (.pointer (some ⟨g, 0, none⟩)) w.drew :=
    Lib.run_unsafeSliceData_row _ _ _ _ _ _ (by omega)
  have hUS : (Builtin.unsafeString_ #[62, 3] 9 #[.pointer (some ⟨g, 0, none⟩), .int .i64 l.length]).run Tryz.prog w.drew = .ok (.string ⟨l.toArray⟩) (w.drew.freeze ⟨g, 0, none⟩ l.length) :=
    Lib.run_unsafeString_row w.drew 62 3 9 5 Tryz.underlying62 Tryz.Builder_Extra_156.cellsByte g N hsh l h0 hN h63 hcell
  have mixed := Tryz.lays156.mixed
  go_enter Tryz.func18, Tryz.ntmps18
  go_wp2
  go_region_o
  all_goals (go_wp2; go_ret; exact ⟨rfl, rfl⟩)
theorem freeze_put {w : World} {g n lo hi : Nat} {A : Array Value} {t : TypeId} (hn : n ≠ 0) (hg : w.heap[g]? = some (.cells A t (lo, hi))) :
    w.freeze ⟨g, 0, none⟩ n = w.putObj g (.cells A t (if lo == hi then (0, 0 + n) else (min lo 0, max hi (0 + n)))) := by
  have hlt : g < w.heap.size := (Array.getElem?_eq_some_iff.1 hg).1
  unfold World.freeze World.putObj
  rw [if_neg hn]
  congr 1
  apply Array.ext_getElem?
  intro j
  rw [Array.getElem?_modify, Array.getElem?_setIfInBounds]
  by_cases hj : g = j
  · subst hj
    simp only [if_true, hg, Option.map_some, hlt]
  · simp [hj]
noncomputable def bsO : OrcE := fun xs h => match xs with
  | [.ptr b 0] => match h.at? b with
    | some (.cells [.one _, .one (.slu q 0 n 0)] _) => match h.at? q with
      | some (.row cs t 1) => match Nat.beq t 5, Nat.ble 1 n, Nat.ble n (lenS cs), bytesOf (takeS (dropS cs 0) n) with
        | true, true, true, some l => match Nat.beq l.length n, Nat.ble n 1000000000 with
          | true, true => some (.lit (.string ⟨⟨l⟩⟩), h.drop q)
          | _, _ => none
        | _, _, _, _ => none
      | _ => none
    | _ => none
  | _ => none
theorem bsO_ok (B : Nat → Prop) (w0 : World) : OrcOk Tryz.prog B w0 18 bsO := by
  intro xs e h v h' w r hx hv
  refine ⟨⟨Tryz.f18, Tryz.func18, by kernel_rfl, by kernel_rfl⟩, ?_⟩
  unfold bsO at hv
  split at hv
  · rename_i b
    split at hv
    · rename_i p q n tb hb
      split at hv
      · rename_i cs t hq
        split at hv
        · rename_i l ht hn1 hn2 hl
          split at hv
          · rename_i hll hnb
            injection hv with hv
            injection hv with e1 e2; subst e1 e2
            obtain rfl := Nat.eq_of_beq_eq_true ht
            obtain rfl := Nat.eq_of_beq_eq_true hll
            have hn1 := Nat.le_of_ble_eq_true hn1
            have hn2 := Nat.le_of_ble_eq_true hn2
            have hnb := Nat.le_of_ble_eq_true hnb
            obtain ⟨fb, hbk, _⟩ := (r.obj b _ hb).2.2.1
            obtain ⟨sp, fr, hqk, hcap, _⟩ := (r.obj q _ hq).2.2.1
            have hrd := r.read hq (cs := cs) (t := 5) rfl 0 l.length
            rw [bytesOf_tr e hl] at hrd
            have h0 : l ≠ [] := fun h => by subst h; simp at hn1
            have hargs : (trL e [.ptr b 0]).toArray = #[.pointer (some ⟨e.at_ b, 0, none⟩)] := rfl
            have hbk' : w.heap[e.at_ b]? = some (.cells #[RV.tr e p, .slice (some ⟨e.at_ q, 0, none⟩) l.length (e.cap q - 0)] tb fb) := hbk
            have hsz : (trS e cs ++ sp).toArray.size = lenS cs + sp.length := by simp [trS_len]
            rw [hargs]
            refine (bstr_walk (e.at_ b) (e.at_ q) (e.cap q - 0) (lenS cs + sp.length) (RV.tr e p) l tb fb w hbk' h0 (by omega) (by simp [World.shape?, hqk, hsz]) (by omega) (by omega) (fun j x hj => ?_)).mono ?_
            · have := hrd j _ (by rw [List.getElem?_map, hj]; rfl)
              rw [Addr.add_mid]
              exact this
            · rintro en w' ⟨rfl, rfl⟩
              obtain ⟨lo, hi⟩ := fr
              rw [freeze_put (w := w.drew) (by omega) hqk]
              exact ⟨e, Nv.ext.refl _ _, r.drew.dropPut hq _, Nat.le_refl _, trivial, rfl⟩
          · cases hv
        · cases hv
      · cases hv
    · cases hv
  · cases hv
end Go.Proofs.YtlfljoeafpimpaaGreatDoor
