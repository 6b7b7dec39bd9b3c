/- The evaluator: conversions. -/
import Derived.Test.YtkjgmakaidfgaaaGreatDoorEvx
namespace Go.Proofs.YtkjgmakaidfgaaaGreatDoor
open Go.RowKit

section
variable {P : Program} {Ty : Tr TypeInfo} {B : Nat → Prop} {w0 w : World} {e : Nv} {h h' : Hp} {F : Fr} {a : Act} {o : Oper} {v : RV}
theorem bytL_tr (n k : Nat) : bytV n k = (bytL n k).map fun b => .int .u8 (b.toNat : Int) := by
  unfold bytV bytL
  rw [List.map_map]
  refine List.map_congr_left fun i _ => ?_
  simp only [byV, Function.comp, UInt8.toNat_ofNat']
theorem bytesOf_tr (e : Nv) : ∀ {cs : List Seg} {l : List UInt8}, bytesOf cs = some l → trS e cs = l.map fun b => .int .u8 (b.toNat : Int)
  | [], l, hv => by
    injection hv with hv; subst hv
    rfl
  | s :: r, l, hv => by
    unfold bytesOf at hv
    split at hv
    · rename_i h; cases h
    · rename_i n k r' h
      injection h with h1 h2; subst h1 h2
      obtain ⟨q, hq, rfl⟩ := some_map hv
      rw [trS, bytesOf_tr e hq, List.map_append]
      simp only [Seg.tr, bytL_tr]
    · rename_i m r' h
      injection h with h1 h2; subst h1 h2
      split at hv
      · rename_i hm
        have hm := not_ble hm
        obtain ⟨q, hq, rfl⟩ := some_map hv
        rw [trS, bytesOf_tr e hq, List.map_cons]
        simp only [Seg.tr, RV.tr, List.singleton_append]
        rw [UInt8.toNat_ofNat', Nat.mod_eq_of_lt (by simpa using hm)]
        rfl
      · cases hv
    · cases hv
theorem conv_tobytes (K : TyOk P Ty) (r : RepH B w0 e h w) {s d el : TypeId} {t : ByteArray} (hs : undE Ty s = some .string) (hd : undE Ty d = some (.slice el)) (he : undE Ty el = some (.int .u8)) (hroom : h.room = true) :
    ∃ e' w', (convert s d (.string t)).run P w = .ok (RV.tr e' (.slu h.nx 0 t.size 0)) w' ∧ Nv.ext h.nx e e' ∧ RepH B w0 e' (h.add (.row (pack (t.data.toList.map fun b => .int .u8 b.toNat)) el 1)) w' := by
  have hrun := run_bytes_of_string (P := P) w s d el t (K.und hs) (K.und hd) (K.und he)
  have hcap := grownCap_ge w t.size 0 el
  have hts : t.data.toList.length = t.size := by rw [Array.length_toList]; rfl
  have hl : lenS (pack (t.data.toList.map fun b => Value.int .u8 (b.toNat : Int))) = t.size := by
    rw [← trS_len e, pack_tr, List.length_map, hts]
  have hR := r.drew.make (o := .row (pack (t.data.toList.map fun b => .int .u8 b.toNat)) el 1)
    (x := .cells (bytesRow t (grownCap w t.size 0 el)) el ((bytesRow t (grownCap w t.size 0 el)).size, (bytesRow t (grownCap w t.size 0 el)).size + 1)) (grownCap w t.size 0 el) (Hp.room_lt hroom) ?_ (pack_lt _)
  · refine ⟨_, _, hrun.trans ?_, Nv.put_ext e h.nx w.heap.size (grownCap w t.size 0 el), hR⟩
    simp only [RV.tr, Nv.put, if_true, Nat.sub_zero]
  · refine ⟨List.replicate (grownCap w t.size 0 el - t.size) (.int .u8 0), ((bytesRow t (grownCap w t.size 0 el)).size, (bytesRow t (grownCap w t.size 0 el)).size + 1), ?_, ?_, .inr ?_⟩
    · rw [pack_tr]
      congr 2
      apply Array.ext'
      simp [bytesRow]
    · rw [hl, List.length_replicate]
      have hce : ∀ q, (e.put h.nx q (grownCap w t.size 0 el)).cap h.nx = grownCap w t.size 0 el := fun q => by simp [Nv.put]
      rw [hce]; omega
    · rw [hl, List.length_replicate]
      have : (bytesRow t (grownCap w t.size 0 el)).size = t.size + (grownCap w t.size 0 el - t.size) := by
        unfold bytesRow
        rw [Array.size_append, Array.size_map, Array.size_replicate]
        rfl
      rw [this]
      exact Nat.le_refl _
theorem conv_text_bytes (K : TyOk P Ty) (r : RepH B w0 e h w) {s d el : TypeId} {x : RV} {n : Nat} {vs : List Seg} {l : List UInt8} (hs : undE Ty s = some (.slice el)) (hd : undE Ty d = some .string) (he : undE Ty el = some (.int .u8))
    (hn : lenS' x = some n) (hf : firstS h 1 n x = some vs) (hvn : lenS vs = n) (hb : bytesOf vs = some l) : (convert s d (RV.tr e x)).run P w = .ok (.string ⟨⟨l⟩⟩) w := by
  have hbt := bytesOf_tr e hb
  have hll : l.length = n := by
    have := trS_len e vs
    rw [hbt, List.length_map] at this
    omega
  have key : ∀ (q o' : Nat) (c : Nat) (y : RO), RV.tr e x = .slice (some ⟨e.at_ q, o', none⟩) n c → rowOf x = some (q, o', n) → (convert s d (RV.tr e x)).run P w = .ok (.string ⟨⟨l⟩⟩) w := by
    intro q o' c _ hx hro
    have hf' : ∃ y cs t, h.at? q = some y ∧ y.segs = some (cs, t) ∧ takeS (dropS cs o') (n * 1) = vs := by
      unfold firstS at hf
      split at hf
      · cases hro
      · cases hro
      · cases hro
      · rw [hro] at hf
        simp only at hf
        split at hf
        · rename_i y hy
          split at hf
          · rename_i cs t hcs
            split at hf
            · injection hf with hf
              exact ⟨y, cs, t, hy, hcs, hf⟩
            · cases hf
          · cases hf
        · cases hf
    obtain ⟨y, cs, t, hy, hcs, hvs⟩ := hf'
    have hrd := r.read hy hcs o' (n * 1)
    rw [hvs, hbt] at hrd
    rw [hx]
    have := run_convert_bytes_back (P := P) w s d el ⟨e.at_ q, o', none⟩ c l (K.und hs) (K.und he) (K.und hd) (fun j hj => by
      rw [Addr.add_mid]
      exact hrd j _ (by rw [List.getElem?_map, List.getElem?_eq_getElem hj]; rfl))
    rw [hll] at this
    exact this
  unfold lenS' at hn
  split at hn
  · injection hn with hn; subst hn
    exact key _ _ _ (.map [] 0) rfl rfl
  · injection hn with hn; subst hn
    exact key _ _ _ (.map [] 0) rfl rfl
  · injection hn with hn; subst hn
    obtain rfl : l = [] := List.length_eq_zero_iff.1 hll
    exact run_convert_bytes_back (P := P) w s d el ⟨_, _, none⟩ _ [] (K.und hs) (K.und he) (K.und hd) (fun j hj => by cases hj)
  · injection hn with hn; subst hn
    have hf : some [] = some vs := hf
    injection hf with hf; subst hf
    have hb : some [] = some l := hb
    injection hb with hb; subst hb
    show (convert s d (.slice none _ _)).run P w = _
    rw [run_convert_bytes_string w s d el none _ _ (K.und hs) (K.und he) (K.und hd)]
    rfl
  · cases hn
theorem conv_same (K : TyOk P Ty) (r : RepH B w0 e h w) {s d el : TypeId} {x : RV} {b o' n : Nat} {y : RO} {cs : List Seg} {t : TypeId} (hd : undE Ty d = some (.slice el)) (he : undE Ty el = some (.int .u8))
    (hsd : s = d) (hro : rowOf x = some (b, o', n)) (hb : h.at? b = some y) (hcs : y.segs = some (cs, t)) :
    ∃ w', (convert s d (RV.tr e x)).run P w = .ok (RV.tr e x) w' ∧ RepH B w0 e (h.put b y) w' := by
  obtain ⟨sp, fr, hblk, hfz⟩ := r.blk hb hcs
  obtain ⟨c, hx⟩ := rowOf_tr e hro
  have hlt : e.at_ b < w.heap.size := r.live hb
  have hsize : (trS e cs ++ sp).toArray.size = lenS cs + sp.length := by simp [trS_len]
  generalize hA : (trS e cs ++ sp).toArray = A at hblk hsize
  generalize hn : lenS cs + sp.length = m at hfz hsize
  obtain ⟨lo, hi⟩ := fr
  have hfz' : ∀ fr' : Nat × Nat, fr' = (if lo == hi then (m, m + 1) else (min lo m, max hi (m + 1))) → frz fr' m := by
    intro fr' hfr
    subst hfr
    right
    split
    · exact Nat.le_refl _
    · rename_i hne
      rcases hfz with h0 | h0
      · injection h0 with h1 h2; subst h1 h2; exact (hne rfl).elim
      · simp only at h0 ⊢; omega
  have hz := hfz' _ rfl
  generalize hfr : (if lo == hi then (m, m + 1) else (min lo m, max hi (m + 1))) = fr' at hz
  refine ⟨_, ?_, r.setObj (x := .cells A t fr') hb ?_ ?_⟩
  · rw [hx]
    have hsh : w.shape? (e.at_ b) = some (t, m) := by simp [World.shape?, hblk, hsize]
    have hfre : w.freeze ⟨e.at_ b, m, none⟩ 1 = { w with heap := w.heap.setIfInBounds (e.at_ b) (.cells A t fr') } := by
      unfold World.freeze
      rw [if_neg (by decide)]
      congr 1
      apply Array.ext_getElem?
      intro j
      rw [Array.getElem?_modify, Array.getElem?_setIfInBounds]
      by_cases hj : e.at_ b = j
      · subst hj
        simp only [if_true, hblk, Option.map_some, hlt, hfr]
      · simp [hj]
    unfold convert
    simp only [Sem.run_bind, K.undRun hd, Result.andThen_ok, K.undRun he, hsd, beq_self_eq_true]
    simp [markStringish, hsh, hfre]
  · obtain ⟨_, _, hok, _⟩ := r.obj b y hb
    cases y with
    | cells c u =>
      simp only [RO.segs, Option.some.injEq, Prod.mk.injEq] at hcs
      obtain ⟨rfl, rfl⟩ := hcs
      obtain ⟨fr2, h1, h2⟩ := hok
      rw [h1] at hblk
      injection hblk with hblk
      injection hblk with g1 g2 g3
      have hm : m = lenS c := by rw [← hsize, ← g1]; simp [trS_len]
      exact ⟨fr', by rw [g1], by rw [← hm]; exact hz⟩
    | row c u sz =>
      simp only [RO.segs, Option.some.injEq, Prod.mk.injEq] at hcs
      obtain ⟨rfl, rfl⟩ := hcs
      obtain ⟨sp2, fr2, h1, h2, h3⟩ := hok
      rw [h1] at hblk
      injection hblk with hblk
      injection hblk with g1 g2 g3
      have hm : m = lenS c + sp2.length := by rw [← hsize, ← g1]; simp [trS_len]
      exact ⟨sp2, fr', by rw [g1], h2, by rw [← hm]; exact hz⟩
    | map es c => cases hcs
    | lop L => cases hcs
    | dfr => cases hcs
    | itr m s q l => cases hcs
  · exact (r.obj b y hb).2.2.2
theorem opConv_run (K : TyOk P Ty) (r : RepH B w0 e h w) (f : RepF e h.nx F a) {s d : TypeId} {x : Operand} (hv : opConv Ty F h s d x = some (v, h')) (ho : o.op = .convert s d x) : OpR P B w0 e h a o w v h' := by
  unfold opConv at hv
  split at hv
  · rename_i p hp
    obtain ⟨he, hl⟩ := opd_run f hp
    have hex : (execOp a.eval o) = (do pure (Next.value (← convert s d (RV.tr e p))) : Sem Next) := by
      unfold execOp; rw [ho]
      simp only [he]
    unfold evConv at hv
    split at hv
    · rename_i ds k j n hs hd
      injection hv with hv
      injection hv with e1 e2; subst e1 e2
      refine .same r ?_ trivial
      rw [hex]
      exact run_value (conv_int K hs hd)
    · rename_i ds t hs hd
      injection hv with hv
      injection hv with e1 e2; subst e1 e2
      refine .same r ?_ trivial
      rw [hex]
      exact run_value (conv_text K hs hd)
    · rename_i el t hs hd
      split at hv
      · rename_i hel hroom
        injection hv with hv
        injection hv with e1 e2; subst e1 e2
        obtain ⟨e', w', hr, hx, r'⟩ := conv_tobytes K r hs hd hel hroom (t := t)
        refine ⟨e', w', .inl ?_, hx, r', Nat.le_succ _, Nat.lt_succ_self _⟩
        rw [hex]
        exact run_value hr
      · cases hv
    · rename_i el hs hd _
      split at hv
      · rename_i n hel hn
        split at hv
        · rename_i vs hf
          split at hv
          · rename_i l b1 hb
            injection hv with hv
            injection hv with e1 e2; subst e1 e2
            refine .same r ?_ trivial
            rw [hex]
            exact run_value (conv_text_bytes K r hs hd hel hn hf (Nat.eq_of_beq_eq_true b1) hb)
          · cases hv
        · cases hv
      · cases hv
    · rename_i _ el _ hd
      split at hv
      · rename_i b o' n hel b1 hro
        split at hv
        · rename_i y hy
          split at hv
          · rename_i q hq
            obtain ⟨cs, t⟩ := q
            injection hv with hv
            injection hv with e1 e2; subst e1 e2
            obtain ⟨w', hr, r'⟩ := conv_same K r hd hel (Nat.eq_of_beq_eq_true b1) hro hy hq
            refine ⟨e, w', .inl ?_, Nv.ext.refl _ _, r', Nat.le_refl _, hl⟩
            rw [hex]
            exact run_value hr
          · cases hv
        · cases hv
      · cases hv
    · cases hv
  · cases hv
end
end Go.Proofs.YtkjgmakaidfgaaaGreatDoor
