/- The evaluator: conversions of integers and texts. The evaluator: append. The evaluator: build, buildSlice; maps; conversions. -/
import Derived.Test.YtlfljoeafpimpaaGreatDoorEvp
import Derived.Deep.AppendSrc
import Derived.Great.BuildSlice
import Derived.MapKept
import Derived.Laws.IdiomStrings
namespace Go.Proofs.YtlfljoeafpimpaaGreatDoor
open Go.RowKit

section
variable {P : Program} {Ty : Tr TypeInfo} {w : World}
theorem conv_int (K : TyOk P Ty) {s d : TypeId} {ds : TypeDesc} {k j : IntKind} {n : Int} (hs : undE Ty s = some ds) (hd : undE Ty d = some (.int k)) :
    (convert s d (.int j n)).run P w = .ok (.int k (k.wrap n)) w := by
  unfold convert
  simp only [Sem.run_bind, K.undRun hs, K.undRun hd, Result.andThen_ok, Conv.intToInt, Sem.run_pure]
theorem conv_text (K : TyOk P Ty) {s d : TypeId} {ds : TypeDesc} {t : ByteArray} (hs : undE Ty s = some ds) (hd : undE Ty d = some .string) :
    (convert s d (.string t)).run P w = .ok (.string t) w := by
  unfold convert
  simp only [Sem.run_bind, K.undRun hs, K.undRun hd, Result.andThen_ok, Sem.run_pure]
end
end Go.Proofs.YtlfljoeafpimpaaGreatDoor
namespace Go.Proofs.YtlfljoeafpimpaaGreatDoor
open Go.RowKit

section
variable {P : Program} {Ty : Tr TypeInfo} {B : Nat → Prop} {w0 w : World} {e : Nv} {h h' : Hp} {F : Fr} {a : Act} {o : Oper} {v : RV}
theorem growBy_le (n : Nat) : ∀ k c, Builtin.growBy n k c ≤ max c (n + (n + 768) / 4)
  | 0, c => by unfold Builtin.growBy; omega
  | k + 1, c => by
    unfold Builtin.growBy
    split
    · omega
    · have := growBy_le n k (c + (c + 768) / 4)
      omega
theorem nextcap_le {n c : Nat} (h : c < n) : Builtin.nextslicecap n c ≤ 2 * n + 2048 := by
  unfold Builtin.nextslicecap
  split
  · omega
  · split
    · omega
    · have := growBy_le n 4 c
      omega
/-- what an append's second argument yields -/
theorem src_of (K : TyOk P Ty) (r : RepH B w0 e h w) {sz m : Nat} {u : TypeId} {du : TypeDesc} {x : RV} {vs : List Seg} (hu : undE Ty u = some du) (hk : appKind du sz = true)
    (hx : lenV x = some m) (hf : firstS h sz m x = some vs) (hl : lenS vs = m * sz) (h1 : oneS vs = true) : Src P sz u (RV.tr e x) m (trS e vs) w := by
  refine ⟨?_, fun w' => lenV_of hx w', (firstS_run r hf).1, (firstS_run r.drew hf).1, by rw [trS_len]; exact hl, oneS_tr e h1⟩
  unfold appKind at hk
  split at hk
  · exact .inl ⟨_, K.und hu⟩
  · exact .inr (K.und hu)
  · cases hk
/-- append where there is room -/
theorem app_room {t tx ty el : TypeId} {i : TypeInfo} (ht : P.underlying t = some (.slice el)) (hi : P.info? el = some i) {base : Option Addr} {sLen sCap n : Nat} {x : Value} {news : List Value} {w' : World}
    (hs : Src P i.size tx x n news w) (hroom : sLen + n ≤ sCap) (hst : ∀ q, base = some q → (storeCells (q.add (sLen * i.size)) news).run P w = .ok () w') (hno : base = none → w' = w) :
    (Builtin.append_ #[t, tx] ty #[.slice base sLen sCap, x]).run P w = .ok (.slice base (sLen + n) sCap) w' := by
  cases base with
  | none =>
    obtain rfl := hno rfl
    rcases hs.kind with ⟨e', hk⟩ | hk <;> simp [Builtin.append_, run_underlying ht, run_underlying hk, sizeOf, typeInfo, hi, hs.len, hroom, hs.cells]
  | some q =>
    have hst := hst q rfl
    rcases hs.kind with ⟨e', hk⟩ | hk <;> simp [Builtin.append_, run_underlying ht, run_underlying hk, sizeOf, typeInfo, hi, hs.len, hroom, hs.cells, hst]
/-- the block of a name that is gone, written -/
theorem RepH.dropRow (r : RepH B w0 e h w) {b : Nat} {y : RO} (hb : h.at? b = some y) (K : Array Value) : RepH B w0 e (h.drop b) (w.setRow (e.at_ b) K) := by
  have hsm := at_small hb
  obtain ⟨hin, hBi, _, _⟩ := r.obj b y hb
  have hsz : (w.setRow (e.at_ b) K).heap.size = w.heap.size := by simp [World.setRow]
  have g : ∀ m x, (h.drop b).at? m = some x → b ≠ m ∧ h.at? m = some x := fun m x hm => by
    by_cases him : b = m
    · subst him
      have : (h.drop b).at? b = none := Tr.get_set_nil HD h.ob b hsm
      rw [this] at hm; cases hm
    · have : (h.drop b).at? m = h.at? m := Tr.get_set_other HD h.ob b m _ hsm him
      rw [this] at hm; exact ⟨him, hm⟩
  refine ⟨⟨r.below.os, r.below.tape, r.below.output, by rw [hsz]; exact r.below.size, fun k hk hk' => ?_⟩, fun j a hj => ?_, fun j k a c hj hk hjk => ?_, r.env⟩
  · rw [setRow_other w _ k _ (fun hh => hk' (by rw [hh] at hk ⊢; exact hBi hk))]; exact r.below.block k hk hk'
  · obtain ⟨hij, hj⟩ := g j a hj
    obtain ⟨h1, h2, h3, h4⟩ := r.obj j a hj
    refine ⟨h1, h2, ?_, h4⟩
    rw [setRow_other w _ _ _ (fun hh => hij (r.inj b j y a hb hj hh.symm))]
    exact h3
  · exact r.inj j k a c (g j a hj).2 (g k c hk).2 hjk
/-- append where there is none -/
theorem appGrow_run {h1 : Hp} (r : RepH B w0 e h w) (r1 : RepH B w0 e h1 w) (hnx : h1.nx = h.nx) {t u ty el : TypeId} {i : TypeInfo} {s x : RV} {vs : List Seg} {n m : Nat} {base : Option Addr} {c : Nat}
    (ht : P.underlying t = some (.slice el)) (hi : P.info? el = some i) (hsrc : Src P i.size u (RV.tr e x) m (trS e vs) w) (hvl : ltS h.nx vs) (hlen : lenS vs = m * i.size)
    (hs : RV.tr e s = .slice base n c) (hg : c < n + m) (hv : appGrow h h1 i el n m s vs = some (v, h')) :
    ∃ e' w', (Builtin.append_ #[t, u] ty #[RV.tr e s, RV.tr e x]).run P w = .ok (RV.tr e' v) w' ∧ Nv.ext h.nx e e' ∧ RepH B w0 e' h' w' ∧ h.nx ≤ h'.nx ∧ RV.lt h'.nx v := by
  unfold appGrow at hv
  split at hv
  · rename_i z hz
    split at hv
    · rename_i b1 b2 b3 b4
      split at hv
      · rename_i old hold
        split at hv
        · rename_i b5
          injection hv with hv
          injection hv with e1 e2; subst e1 e2
          have b1 := Nat.eq_of_beq_eq_true b1
          have b2 := Nat.le_of_ble_eq_true b2
          have b3 := Nat.le_of_ble_eq_true b3
          have b5 := Nat.eq_of_beq_eq_true b5
          have hroom := Hp.room_lt b4
          obtain ⟨hfo, hol⟩ := firstS_run (P := P) (e := e) r.drew hold
          rw [hs] at hfo
          have hfit : Builtin.nextslicecap (n + m) c * i.bytes ≤ 281474976710656 := Nat.le_trans (Nat.mul_le_mul_right _ (nextcap_le hg)) b2
          have hrun := run_append_grow_src (P := P) w t u ty el i z ht hi hz base n c (trS e old) hfo (RV.tr e x) m (trS e vs) hsrc hg (by omega) hfit
          rw [← hs] at hrun
          have hcap := grownCap_ge w (n + m) c el
          have rD : RepH B w0 e h1 w.drew := r1.drew
          have hroom1 : h1.nx < 2 ^ HD := by rw [hnx]; exact hroom
          have hx := Nv.put_ext e h1.nx w.heap.size (grownCap w (n + m) c el)
          have hR := rD.make (o := .row (nrm (old ++ vs)) el i.size) (x := .cells ((trS e old ++ trS e vs).toArray ++ Builtin.zeroCells z.cells (grownCap w (n + m) c el - (n + m))) el) (grownCap w (n + m) c el) hroom1 ?_ ?_
          · refine ⟨_, _, hrun.trans ?_, by rw [← hnx]; exact hx, hR, ?_, ?_⟩
            · show _ = Result.ok (RV.tr (e.put h1.nx w.heap.size (grownCap w (n + m) c el)) (.slu h.nx 0 (n + m) 0)) _
              rw [← hnx]
              simp only [RV.tr, Nv.put, if_true, Nat.sub_zero]
            · show h.nx ≤ h1.nx + 1
              omega
            · show h.nx < h1.nx + 1
              omega
          · refine ⟨(Builtin.zeroCells z.cells (grownCap w (n + m) c el - (n + m))).toList, (0, 0), ?_, ?_, frz_zero _⟩
            · rw [nrm_tr, trS_app]
              have hx2 : Nv.ext h.nx e (e.put h1.nx w.heap.size (grownCap w (n + m) c el)) := by rw [← hnx]; exact hx
              show some _ = some (Obj.cells (trS (e.put h1.nx w.heap.size (grownCap w (n + m) c el)) old ++ trS (e.put h1.nx w.heap.size (grownCap w (n + m) c el)) vs ++ _).toArray el (0, 0))
              rw [trS_ext hx2 _ hol, trS_ext hx2 _ hvl]
              congr 2
              apply Array.ext'
              simp [List.append_assoc]
            · rw [← trS_len e, nrm_tr, trS_app, List.length_append, trS_len, trS_len, b5, hlen]
              have hzl : (Builtin.zeroCells z.cells (grownCap w (n + m) c el - (n + m))).toList.length = (grownCap w (n + m) c el - (n + m)) * i.size := by
                simp [Builtin.zeroCells, b1]
              rw [hzl, ← Nat.add_mul, ← Nat.add_mul]
              have hce : ∀ q, (e.put h1.nx q (grownCap w (n + m) c el)).cap h1.nx = grownCap w (n + m) c el := fun q => by simp [Nv.put]
              rw [hce]
              congr 1
              omega
          · show ltS (h1.nx + 1) (nrm (old ++ vs))
            rw [hnx]
            exact ltS_mono (Nat.le_succ _) _ (nrm_lt _ (ltS_app hol hvl))
        · cases hv
      · cases hv
    · cases hv
  · cases hv
theorem fitsS_run (r : RepH B w0 e h w) {s : RV} {n k : Nat} (hf : fitsS h s k = true) (hn : lenS' s = some n) (hk : k = n) : ∃ base c, RV.tr e s = .slice base n c ∧ k ≤ c := by
  subst hk
  unfold fitsS at hf
  split at hf
  · injection hn with hn; subst hn
    exact ⟨_, _, rfl, Nat.le_of_ble_eq_true hf⟩
  · injection hn with hn; subst hn
    have := roomy_cap r hf
    exact ⟨_, _, rfl, by omega⟩
  · injection hn with hn; subst hn
    exact ⟨_, _, rfl, Nat.le_of_ble_eq_true hf⟩
  · injection hn with hn; subst hn
    exact ⟨_, _, rfl, Nat.zero_le _⟩
  · cases hf
/-- room, in a row whose capacity nobody knows -/
theorem appIn_run (r : RepH B w0 e h w) {t u ty el : TypeId} {i : TypeInfo} {x : RV} {vs : List Seg} {n m b : Nat} {cs : List Seg}
    (ht : P.underlying t = some (.slice el)) (hi : P.info? el = some i) (hsrc : Src P i.size u (RV.tr e x) m (trS e vs) w) (hvl : ltS h.nx vs) (hlen : lenS vs = m * i.size)
    (hb : h.at? b = some (.row cs el i.size)) (hin : n + m ≤ e.cap b) (h1 : oneS vs = true) (hv : appGrow h (h.drop b) i el n m (.slu b 0 n 0) vs = some (v, h')) :
    ∃ e' w', (Builtin.append_ #[t, u] ty #[RV.tr e (.slu b 0 n 0), RV.tr e x]).run P w = .ok (RV.tr e' v) w' ∧ Nv.ext h.nx e e' ∧ RepH B w0 e' h' w' ∧ h.nx ≤ h'.nx ∧ RV.lt h'.nx v := by
  unfold appGrow at hv
  split at hv
  · rename_i z hz
    split at hv
    · rename_i b1 b2 b3 b4
      split at hv
      · rename_i old hold
        split at hv
        · rename_i b5
          injection hv with hv
          injection hv with e1 e2; subst e1 e2
          have b5 := Nat.eq_of_beq_eq_true b5
          have hroom := Hp.room_lt b4
          obtain ⟨_, hBb, ⟨sp, fr, hblk, hcap, hmk⟩, hlt⟩ := r.obj b _ hb
          -- what the slice shows is the row's beginning
          obtain ⟨_, hol⟩ := firstS_run (P := P) (e := e) r hold
          have hold' : trS e old = (trS e cs).take (n * i.size) := by
            simp only [firstS, rowOf, hb, RO.segs] at hold
            split at hold
            · injection hold with hold
              rw [← hold, takeS_tr, dropS_tr, List.drop_zero]
            · cases hold
          have hcl := trS_len e cs
          have hvn := trS_len e vs
          have holn := trS_len e old
          have hle : n * i.size ≤ lenS cs := by
            have : (trS e old).length = ((trS e cs).take (n * i.size)).length := by rw [hold']
            rw [List.length_take, holn, b5, hcl] at this
            omega
          have hnm : n * i.size + m * i.size ≤ e.cap b * i.size := by rw [← Nat.add_mul]; exact Nat.mul_le_mul_right _ hin
          have hst := run_storeCells_mk P (e.at_ b) (n * i.size) el fr (trS e vs) 0 (trS e cs ++ sp).toArray w hblk (by simp [hcl]; exact hmk) (by simp; omega) (oneS_tr e h1)
          have hadd : (⟨e.at_ b, 0, none⟩ : Addr).add (n * i.size) = ⟨e.at_ b, n * i.size, none⟩ := by rw [Addr.add_mid, Nat.zero_add]
          have hrun := app_room (P := P) (w := w) (ty := ty) ht hi (base := some ⟨e.at_ b, 0, none⟩) (sLen := n) (sCap := e.cap b) hsrc hin (w' := _)
            (fun q hq => by injection hq with hq; subst hq; rw [hadd]; exact hst) (fun hno => by cases hno)
          have rd := r.dropRow hb ((trS e cs ++ sp).toArray.toList.take (n * i.size + 0) ++ trS e vs ++ (trS e cs ++ sp).toArray.toList.drop (n * i.size + 0 + (trS e vs).length)).toArray
          have hx := Nv.put_ext e h.nx (e.at_ b) (e.cap b)
          have hfree : ∀ j y, (h.drop b).at? j = some y → e.at_ j ≠ e.at_ b := fun j y hj hjb => by
            have hsm := at_small hb
            by_cases hij : b = j
            · subst hij
              have : (h.drop b).at? b = none := Tr.get_set_nil HD h.ob b hsm
              rw [this] at hj; cases hj
            · have : (h.drop b).at? j = h.at? j := Tr.get_set_other HD h.ob b j _ hsm hij
              rw [this] at hj
              exact hij (r.inj j b y _ hj hb hjb).symm
          have hR := rd.name (o := .row (nrm (old ++ vs)) el i.size) (e.at_ b) (e.cap b) hroom hBb hfree ?_ ?_
          · refine ⟨_, _, ?_, hx, hR, Nat.le_succ _, Nat.lt_succ_self _⟩
            simp only [RV.tr, Nv.put, if_true, Nat.sub_zero] at hrun ⊢
            exact hrun
          · have htot : lenS (nrm (old ++ vs)) + ((trS e cs ++ sp).drop (n * i.size + m * i.size)).length = lenS cs + sp.length := by
              rw [← trS_len e, nrm_tr, trS_app, List.length_append, List.length_drop, List.length_append, holn, hvn, b5, hlen, hcl]
              omega
            refine ⟨(trS e cs ++ sp).drop (n * i.size + m * i.size), fr, ?_, ?_, by rw [htot]; exact hmk⟩
            · show (World.setRow w (e.at_ b) _).heap[e.at_ b]? = _
              rw [setRow_heap w _ _ _ _ _ hblk]
              congr 2
              have hx2 : Nv.ext h.nx e (e.put (h.drop b).nx (e.at_ b) (e.cap b)) := hx
              rw [nrm_tr, trS_app, trS_ext hx2 _ hol, trS_ext hx2 _ hvl, hold', Nat.add_zero, hvn, hlen, List.take_append_of_le_length (by omega)]
            · have hce : (e.put (h.drop b).nx (e.at_ b) (e.cap b)).cap (h.drop b).nx = e.cap b := by simp [Nv.put]
              rw [hce, htot]; exact hcap
          · show ltS (h.nx + 1) (nrm (old ++ vs))
            exact ltS_mono (Nat.le_succ _) _ (nrm_lt _ (ltS_app hol hvl))
        · cases hv
      · cases hv
    · cases hv
  · cases hv
theorem isRow_run {b : Nat} {el : TypeId} {sz : Nat} (hr : isRow h b el sz = true) : ∃ cs, h.at? b = some (.row cs el sz) ∧ 0 < sz := by
  unfold isRow at hr
  split at hr
  · rename_i cs t s hb
    split at hr
    · rename_i h1 h2
      obtain rfl := Nat.eq_of_beq_eq_true h1
      obtain rfl := Nat.eq_of_beq_eq_true h2
      exact ⟨cs, hb, Nat.succ_pos _⟩
    · cases hr
  · cases hr
theorem appAt_run (r : RepH B w0 e h w) {t u ty el : TypeId} {i : TypeInfo} {s x : RV} {vs : List Seg} {n m : Nat}
    (ht : P.underlying t = some (.slice el)) (hi : P.info? el = some i) (hsrc : Src P i.size u (RV.tr e x) m (trS e vs) w) (hvl : ltS h.nx vs) (hlen : lenS vs = m * i.size) (h1 : oneS vs = true)
    (hn : lenS' s = some n) (hl : RV.lt h.nx s) (hv : appAt h i el n m s vs = some (v, h')) :
    ∃ e' w', (Builtin.append_ #[t, u] ty #[RV.tr e s, RV.tr e x]).run P w = .ok (RV.tr e' v) w' ∧ Nv.ext h.nx e e' ∧ RepH B w0 e' h' w' ∧ h.nx ≤ h'.nx ∧ RV.lt h'.nx v := by
  unfold appAt at hv
  split at hv
  · split at hv
    · rename_i hf
      injection hv with hv
      injection hv with e1 e2; subst e1 e2
      obtain ⟨base, c, hs, hc⟩ := fitsS_run r hf hn rfl
      have hz : trS e vs = [] := List.length_eq_zero_iff.1 (by rw [trS_len, hlen, Nat.zero_mul])
      have hrun := app_room (P := P) (w := w) (ty := ty) ht hi (base := base) (sLen := n) (sCap := c) hsrc (by omega) (w' := w)
        (fun q hq => by rw [hz]; rfl) (fun _ => rfl)
      rw [← hs] at hrun
      exact ⟨e, w, hrun.trans (by rw [hs]; rfl), Nv.ext.refl _ _, r, Nat.le_refl _, hl⟩
    · cases hv
  · rename_i hm
    split at hv
    · rename_i b o k c
      obtain rfl : k = n := by injection hn
      split at hv
      · rename_i hle
        obtain ⟨h2, hp, hh⟩ := some_map hv
        injection hh with e1 e2; subst e1 e2
        obtain ⟨w', hst, r', hn'⟩ := putRow_run (P := P) r hvl hp
        have hrun := app_room (P := P) (w := w) (ty := ty) ht hi (base := some ⟨e.at_ b, o, none⟩) (sLen := k) (sCap := c) hsrc (Nat.le_of_ble_eq_true hle) (w' := w')
          (fun q hq => by injection hq with hq; subst hq; rw [Addr.add_mid]; exact hst) (fun hno => by cases hno)
        exact ⟨e, w', hrun, Nv.ext.refl _ _, r', Nat.le_of_eq hn'.symm, by rw [hn']; exact hl⟩
      · rename_i hle
        exact appGrow_run r r rfl ht hi hsrc hvl hlen rfl (not_ble hle) hv
    · rename_i b o k d
      obtain rfl : k = n := by injection hn
      split at hv
      · rename_i hro
        obtain ⟨h2, hp, hh⟩ := some_map hv
        injection hh with e1 e2; subst e1 e2
        have hc := roomy_cap r hro
        obtain ⟨w', hst, r', hn'⟩ := putRow_run (P := P) r hvl hp
        have hrun := app_room (P := P) (w := w) (ty := ty) ht hi (base := some ⟨e.at_ b, o, none⟩) (sLen := k) (sCap := e.cap b - d) hsrc (by omega) (w' := w')
          (fun q hq => by injection hq with hq; subst hq; rw [Addr.add_mid]; exact hst) (fun hno => by cases hno)
        refine ⟨e, w', hrun.trans ?_, Nv.ext.refl _ _, r', Nat.le_of_eq hn'.symm, by rw [hn']; exact hl⟩
        rfl
      · split at hv
        · split at hv
          · rename_i hrow
            obtain ⟨cs, hb, hsz⟩ := isRow_run hrow
            rcases Nat.lt_or_ge (e.cap b) (k + m) with hc | hc
            · exact appGrow_run r (r.drop (at_small hb)) rfl ht hi hsrc hvl hlen rfl (by rw [Nat.sub_zero]; exact hc) hv
            · exact appIn_run r ht hi hsrc hvl hlen hb hc h1 hv
          · cases hv
        · cases hv
    · rename_i k
      obtain rfl : k = n := by injection hn
      refine appGrow_run r r rfl ht hi hsrc hvl hlen rfl ?_ hv
      rcases Nat.eq_zero_or_pos m with h0 | h0
      · exact (hm h0).elim
      · omega
    · cases hv
theorem evAppend_run (K : TyOk P Ty) (r : RepH B w0 e h w) {t u ty : TypeId} {s x : RV} (hl : RV.lt h.nx s) (hv : evAppend Ty h t u s x = some (v, h')) :
    ∃ e' w', (Builtin.append_ #[t, u] ty #[RV.tr e s, RV.tr e x]).run P w = .ok (RV.tr e' v) w' ∧ Nv.ext h.nx e e' ∧ RepH B w0 e' h' w' ∧ h.nx ≤ h'.nx ∧ RV.lt h'.nx v := by
  unfold evAppend at hv
  split at hv
  · rename_i el du ht hu
    split at hv
    · rename_i i hi
      split at hv
      · rename_i n m hk hn hm
        split at hv
        · rename_i vs hf
          split at hv
          · rename_i b1 b2
            have b1 := Nat.eq_of_beq_eq_true b1
            exact appAt_run r (K.und ht) (K.info el i hi) (src_of K r hu hk hm hf b1 b2) (firstS_run (P := P) (e := e) r hf).2 b1 b2 hn hl hv
          · cases hv
        · cases hv
      · cases hv
    · cases hv
  · cases hv
end
end Go.Proofs.YtlfljoeafpimpaaGreatDoor
namespace Go.Proofs.YtlfljoeafpimpaaGreatDoor
open Go.RowKit

section
variable {P : Program} {Ty : Tr TypeInfo} {B : Nat → Prop} {w0 w : World} {e : Nv} {h h' : Hp} {F : Fr} {a : Act} {o : Oper} {v : RV}
theorem foldl_put : ∀ (l : List Value) (k off : Nat) (A : Array Value), off + k + l.length ≤ A.size →
    ((l.zipIdx k).foldl (fun cs (x : Value × Nat) => cs.setIfInBounds (off + x.2) x.1) A) = (A.toList.take (off + k) ++ l ++ A.toList.drop (off + k + l.length)).toArray
  | [], k, off, A, _ => by simp
  | v :: l, k, off, A, hl => by
    simp only [List.length_cons] at hl
    rw [List.zipIdx_cons, List.foldl_cons, foldl_put l (k + 1) off _ (by rw [Array.size_setIfInBounds]; omega)]
    congr 1
    have e := list_seg_step A.toList (off + k) v l (by simp; omega)
    simpa [Array.toList_setIfInBounds, Nat.add_assoc] using e
theorem fillS_run (e : Nv) {place place' : Nat → Option (Nat × Nat)} (hp : ∀ i q, place i = some q → place' i = some q) : ∀ {ps : List (Nat × RV)} {cs r : List Seg}, fillS place cs ps = some r →
    Instr.fill place' (trS e cs).toArray (ps.map fun p => (p.1, RV.tr e p.2)) = some (trS e r).toArray ∧ (∀ n, ltS n cs → (∀ p ∈ ps, RV.lt n p.2) → ltS n r)
  | [], cs, r, hv => by
    injection hv with hv; subst hv
    exact ⟨rfl, fun _ h _ => h⟩
  | (i, v) :: ps, cs, r, hv => by
    unfold fillS at hv
    split at hv
    · cases hv
    · rename_i o s hpl
      split at hv
      · rename_i b1 b2 b3
        have b1 := Nat.eq_of_beq_eq_true b1
        have b2 := Nat.le_of_ble_eq_true b2
        have hc := oneC_cells e b3
        have hsz : (RV.tr e v).cells.size = s := by rw [← Array.length_toList, hc, trS_len]; exact b1
        obtain ⟨g1, g2⟩ := fillS_run e hp hv
        refine ⟨?_, fun n hn hps => g2 n (putS_lt o hn (RV.segs_lt (hps (i, v) (List.mem_cons_self ..)))) fun p hm => hps p (List.mem_cons_of_mem _ hm)⟩
        rw [List.map_cons]
        unfold Instr.fill
        simp only [hp i _ hpl]
        have hcl := trS_len e cs
        rw [if_neg (by simp [hsz, hcl]; omega)]
        have hf : (RV.tr e v).cells.zipIdx.foldl (fun cs (x : Value × Nat) => cs.setIfInBounds (o + x.2) x.1) (trS e cs).toArray = (trS e (putS cs o v.segs)).toArray := by
          rw [← Array.foldl_toList, Array.toList_zipIdx, hc, foldl_put _ 0 o _ (by simp [trS_len]; omega)]
          rw [putS_tr, Nat.add_zero, trS_len]
        rw [← g1]
        congr 1
      · cases hv
theorem parts_run (f : RepF e h.nx F a) : ∀ {l : List (Nat × Operand)} {ps : List (Nat × RV)}, parts (opd F) l = some ps →
    l.map (fun p => (p.1, a.eval p.2)) = ps.map (fun p => (p.1, RV.tr e p.2)) ∧ ∀ p ∈ ps, RV.lt h.nx p.2
  | [], ps, hv => by
    replace hv := Option.some.inj hv; subst hv
    exact ⟨rfl, fun p hp => by cases hp⟩
  | x :: l, ps, hv => by
    replace hv : (match opd F x.2 with
      | some v => match parts (opd F) l with
        | some l => some ((x.1, v) :: l)
        | none => none
      | none => none) = some ps := hv
    split at hv
    · rename_i v hx
      split at hv
      · rename_i qs hq
        injection hv with hv; subst hv
        obtain ⟨h1, h2⟩ := parts_run f hq
        obtain ⟨h3, h4⟩ := opd_run f hx
        refine ⟨by rw [List.map_cons, List.map_cons, h1, h3], fun p hp => ?_⟩
        rcases List.mem_cons.1 hp with rfl | hp
        · exact h4
        · exact h2 p hp
      · cases hv
    · cases hv
theorem placesE_run (K : TyOk P Ty) : ∀ {l : List Field} {pl : List (Nat × Nat)}, placesE Ty l = some pl → l.mapM (fun f => (P.info? f.type).map fun i => (f.offset, i.size)) = some pl
  | [], pl, hv => by
    replace hv := Option.some.inj hv; subst hv
    rfl
  | f :: l, pl, hv => by
    replace hv : (match szE Ty f.type with
      | some s => match placesE Ty l with
        | some l => some ((f.offset, s) :: l)
        | none => none
      | none => none) = some pl := hv
    split at hv
    · rename_i s hs
      split at hv
      · rename_i ql hq
        injection hv with hv; subst hv
        obtain ⟨i, hi, rfl⟩ := K.sz hs
        rw [List.mapM_cons, placesE_run K hq, hi]
        rfl
      · cases hv
    · cases hv
theorem TyOk.zeroI (K : TyOk P Ty) {t : TypeId} {z : Value} (h : zerE Ty t = some z) : ∃ i, P.info? t = some i ∧ i.zero = some z := by
  unfold zerE at h
  cases hi : Tr.get 10 Ty t with
  | none => rw [hi] at h; cases h
  | some i => rw [hi] at h; exact ⟨i, K.info t i hi, h⟩
theorem opBuild_run (K : TyOk P Ty) (f : RepF e h.nx F a) {t : TypeId} {ps : Array (Nat × Operand)} (hv : opBuild Ty F h t ps = some (v, h')) (ho : o.op = .build t ps) : QR P e h a o w v ∧ h' = h := by
  unfold opBuild at hv
  split at hv
  · rename_i l hl
    obtain ⟨hz, rfl⟩ := with_some hv
    obtain ⟨h1, h2⟩ := parts_run f hl
    have hparts : (ps.map fun (i, x) => (i, a.eval x)) = (l.map fun p => (p.1, RV.tr e p.2)).toArray := by
      rw [← h1, ← Array.toList_map, Array.toArray_toList]
    unfold evBuild at hz
    split at hz
    · rename_i fs z hu hzz
      split at hz
      · rename_i pl hpl
        obtain ⟨cs, hcs, rfl⟩ := some_map hz
        obtain ⟨i, hi, hiz⟩ := K.zeroI hzz
        obtain ⟨g1, g2⟩ := fillS_run e (place' := fun i => pl.toArray[i]?) (fun i q hq => by rw [List.getElem?_toArray]; exact hq) hcs
        refine ⟨⟨?_, (g2 _ (pack_lt _) h2)⟩, rfl⟩
        unfold execOp; rw [ho]
        refine run_value ?_
        rw [hparts]
        refine run_build w t _ _ ?_
        unfold Program.built
        simp only [hi, K.und hu, hiz, placesE_run K hpl]
        rw [pack_tr, Array.toArray_toList] at g1
        exact g1
      · cases hz
    · rename_i n el z hu hzz
      split at hz
      · rename_i s hs
        obtain ⟨cs, hcs, rfl⟩ := some_map hz
        obtain ⟨i, hi, hiz⟩ := K.zeroI hzz
        obtain ⟨ie, hie, rfl⟩ := K.sz hs
        obtain ⟨g1, g2⟩ := fillS_run e (place' := fun i => some (i * ie.size, ie.size)) (fun i q hq => hq) hcs
        refine ⟨⟨?_, (g2 _ (pack_lt _) h2)⟩, rfl⟩
        unfold execOp; rw [ho]
        refine run_value ?_
        rw [hparts]
        refine run_build w t _ _ ?_
        unfold Program.built
        simp only [hi, K.und hu, hiz, hie]
        rw [pack_tr, Array.toArray_toList] at g1
        exact g1
      · cases hz
    · cases hz
  · cases hv
theorem opBuildSlice_run (K : TyOk P Ty) (r : RepH B w0 e h w) (f : RepF e h.nx F a) {t : TypeId} {n : Nat} {ps : Array (Nat × Operand)} (hv : opBuildSlice Ty F h t n ps = some (v, h')) (ho : o.op = .buildSlice t n ps) : OpR P B w0 e h a o w v h' := by
  unfold opBuildSlice at hv
  split at hv
  · rename_i l hl
    obtain ⟨h1, h2⟩ := parts_run f hl
    have hparts : (ps.map fun (i, x) => (i, a.eval x)) = (l.map fun p => (p.1, RV.tr e p.2)).toArray := by
      rw [← h1, ← Array.toList_map, Array.toArray_toList]
    unfold evBuildSlice at hv
    split at hv
    · rename_i el hu
      split at hv
      · rename_i z s hz hs hroom
        split at hv
        · rename_i b1 b2
          obtain ⟨cs, hcs, hh⟩ := some_map hv
          injection hh with e1 e2; subst e1 e2
          have b1 := Nat.le_of_ble_eq_true b1
          have b2 := Nat.eq_of_beq_eq_true b2
          obtain ⟨i, hi, hiz⟩ := K.zeroI hz
          obtain ⟨ie, hie, hsz'⟩ := K.sz hs
          have hsz : ie.size = s + 1 := hsz'
          obtain rfl : i = ie := by rw [hi] at hie; injection hie
          have hx := Nv.put_ext e h.nx w.heap.size 0
          obtain ⟨g1, g2⟩ := fillS_run (e.put h.nx w.heap.size 0) (place' := fun j => some (j * i.size, i.size)) (fun j q hq => by rw [hsz]; exact hq) hcs
          have hlt := g2 h.nx (timesS_lt (pack_lt _) n) h2
          have hps : (l.map fun p => (p.1, RV.tr e p.2)) = l.map fun p => (p.1, RV.tr (e.put h.nx w.heap.size 0) p.2) :=
            List.map_congr_left fun p hp => by rw [RV.tr_ext hx p.2 (h2 p hp)]
          have hrun : (Instr.buildSlice t n (l.map fun p => (p.1, RV.tr e p.2)).toArray).run P w = .ok (.slice (some ⟨w.heap.size, 0, none⟩) n n) (w.alloc (.cells (trS (e.put h.nx w.heap.size 0) cs).toArray el)) := by
            rw [timesS_tr, pack_tr, ← made_fold, b2, ← hsz, ← hps] at g1
            rcases Nat.eq_zero_or_pos n with h0 | h0
            · subst h0
              have hm : madeCells z.cells (0 * i.size) = #[] := by simp [madeCells]
              rw [hm] at g1
              have e0 : Array.map (fun _ => (default : Value)) (Array.range 0) = #[] := by simp
              simp only [Instr.buildSlice, run_underlying (K.und hu), sizeOf, typeInfo, Sem.run_bind, Result.andThen_ok, Sem.run_pure]
              simp [hi, newRow]
              rw [e0, g1]
              rfl
            · refine run_buildSlice w t el n _ _ i z (K.und hu) hi hiz ?_ ?_ g1
              · rw [hsz]; omega
              · have : 0 < n * i.size := Nat.mul_pos h0 (by omega)
                omega
          refine ⟨e.put h.nx w.heap.size 0, w.alloc (.cells (trS (e.put h.nx w.heap.size 0) cs).toArray el), .inl ?_, hx, r.make 0 (Hp.room_lt hroom) ⟨(0, 0), rfl, frz_zero _⟩ (ltS_mono (Nat.le_succ _) _ hlt), Nat.le_succ _, Nat.lt_succ_self _⟩
          unfold execOp; rw [ho]
          refine run_value ?_
          rw [hparts, hrun]
          simp only [RV.tr, Nv.put, if_true]
        · cases hv
      · cases hv
    · cases hv
  · cases hv
end
end Go.Proofs.YtlfljoeafpimpaaGreatDoor
