/- The evaluator: the frame of a call. The evaluator: a function's results. -/
import Derived.Test.YtlfljoeafpimpaaGreatDoorEvq
namespace Go.Proofs.YtlfljoeafpimpaaGreatDoor
open Go.RowKit

section
variable {e : Nv} {nx : Nat}
theorem argsT_get {d : Nat} : ∀ (xs : List RV) (i : Nat) (T : Tr RV), full d T → i + xs.length ≤ 2 ^ d →
    full d (argsT xs i T) ∧ ∀ j, j < 2 ^ d → getR (argsT xs i T) j = if i ≤ j ∧ j < i + xs.length then xs[j - i]? else getR T j
  | [], i, T, hf, _ => ⟨hf, fun j _ => by
    rw [if_neg (by simp only [List.length_nil]; omega)]; rfl⟩
  | v :: r, i, T, hf, hl => by
    have hd : argsT (v :: r) i T = argsT r (i + 1) (putR T i (.leaf v)) := by
      show setR T i (.leaf v) (fun T => argsT r (i + 1) T) = _
      rw [setR_eq]
    rw [List.length_cons] at hl
    obtain ⟨h1, h2⟩ := argsT_get r (i + 1) (putR T i (.leaf v)) (full_put d T i v hf) (by omega)
    rw [hd]
    refine ⟨h1, fun j hj => ?_⟩
    rw [h2 j hj, List.length_cons]
    by_cases hij : i = j
    · subst hij
      rw [if_neg (by omega), getR_put_same d T i v hf, if_pos (by omega), Nat.sub_self, List.getElem?_cons_zero]
    · rw [getR_put_other d T i j v hf (by omega) hj hij]
      by_cases hin : i + 1 ≤ j ∧ j < i + 1 + r.length
      · rw [if_pos hin, if_pos (by omega)]
        rw [show j - i = (j - (i + 1)) + 1 by omega, List.getElem?_cons_succ]
      · rw [if_neg hin, if_neg (by omega)]
theorem ltL_get : ∀ {xs : List RV}, ltL nx xs → ∀ {i : Nat} {v : RV}, xs[i]? = some v → RV.lt nx v
  | [], _, i, v, h => by simp at h
  | x :: xs, hl, 0, v, h => by
    rw [List.getElem?_cons_zero] at h
    injection h with h; subst h
    exact hl.1
  | x :: xs, hl, i + 1, v, h => by
    rw [List.getElem?_cons_succ] at h
    exact ltL_get hl.2 h
/-- the frame a call begins with -/
theorem start_frame {xs : List RV} {n : Nat} (hl : ltL nx xs) (hn : xs.length ≤ n) :
    RepF e nx ⟨n, argsT xs 0 (fullR (.lit undef) (Nat.log2 n + 1)), [], none⟩ { tmps := (trL e xs).toArray ++ Array.replicate (n - (trL e xs).toArray.size) undef, defers := [] } := by
  have hlen : (trL e xs).length = xs.length := by rw [trL_map, List.length_map]
  have h2 : n < 2 ^ (Nat.log2 n + 1) := Nat.lt_log2_self
  obtain ⟨hf, hg⟩ := argsT_get (d := Nat.log2 n + 1) xs 0 (fullR (.lit undef) (Nat.log2 n + 1)) (fullR_full _ _) (by omega)
  refine ⟨by simp [hlen]; omega, ⟨_, hf, Nat.le_of_lt h2⟩, fun i v hi hv => ?_, rfl, (fun d hd => by cases hd), fun b hb => nomatch hb⟩
  replace hi : i < n := hi
  replace hv : getR (argsT xs 0 (fullR (.lit undef) (Nat.log2 n + 1))) i = some v := hv
  rw [hg i (by omega)] at hv
  by_cases hx : i < xs.length
  · rw [if_pos (by omega)] at hv
    simp only [Nat.sub_zero] at hv
    refine ⟨?_, ltL_get hl hv⟩
    show ((trL e xs).toArray ++ _)[i]? = _
    rw [Array.getElem?_append_left (by simp [hlen]; exact hx), List.getElem?_toArray, trL_map, List.getElem?_map, hv]
    rfl
  · rw [if_neg (by omega), getR_fullR] at hv
    injection hv with hv; subst hv
    refine ⟨?_, trivial⟩
    show ((trL e xs).toArray ++ _)[i]? = _
    rw [Array.getElem?_append_right (by simp [hlen]; omega), Array.getElem?_replicate, if_pos (by simp [hlen]; omega)]
    rfl
end
end Go.Proofs.YtlfljoeafpimpaaGreatDoor
namespace Go.Proofs.YtlfljoeafpimpaaGreatDoor
open Go.RowKit

section
variable {P : Program} {Ty : Tr TypeInfo} {B : Nat → Prop} {w0 w : World} {e : Nv} {h : Hp} {F : Fr} {a : Act}
theorem load_asAddr {t : TypeId} {x v : Value} (hl : (Instr.loadAt t x).run P w = .ok v w) : (do loadVar t (← asAddr x) : Sem Value).run P w = .ok v w := by
  cases x with
  | pointer p =>
    cases p with
    | some q => exact hl
    | none => cases hl
  | _ => cases hl
def oneRes (tmps : Array Value) : ResultVar → Sem Value
  | .tmp t => pure (tmps.getD t undef)
  | .cell a t => do loadVar t (← asAddr (tmps.getD a undef))
theorem resE_run (K : TyOk P Ty) (r : RepH B w0 e h w) (f : RepF e h.nx F a) : ∀ {l : List ResultVar} {vs : List RV}, resE Ty F h l = some vs →
    (l.mapM (oneRes a.tmps)).run P w = .ok (trL e vs) w ∧ ltL h.nx vs
  | [], vs, hv => by
    injection hv with hv; subst hv
    exact ⟨rfl, trivial⟩
  | .tmp t :: l, vs, hv => by
    unfold resE at hv
    split at hv
    · rename_i v ys hy hys
      injection hv with hv; subst hv
      obtain ⟨h1, h2⟩ := resE_run K r f hys
      obtain ⟨h3, h4⟩ := opd_run f hy
      refine ⟨?_, h4, h2⟩
      have h5 : (oneRes a.tmps (.tmp t)).run P w = .ok (RV.tr e v) w := by
        show (pure (a.eval (.tmp t)) : Sem Value).run P w = _
        rw [h3]; rfl
      rw [List.mapM_cons]
      simp only [Sem.run_bind, h5, h1, Result.andThen_ok, Sem.run_pure, trL]
    · cases hv
  | .cell q t :: l, vs, hv => by
    unfold resE at hv
    split at hv
    · rename_i p hp
      split at hv
      · rename_i v ys hy hys
        injection hv with hv; subst hv
        obtain ⟨h1, h2⟩ := resE_run K r f hys
        obtain ⟨h3, _⟩ := opd_run f hp
        obtain ⟨h4, h6⟩ := evLoad_run K r hy
        refine ⟨?_, h6, h2⟩
        have h5 : (oneRes a.tmps (.cell q t)).run P w = .ok (RV.tr e v) w := by
          show (do loadVar t (← asAddr (a.eval (.tmp q))) : Sem Value).run P w = _
          rw [h3]; exact load_asAddr h4
        rw [List.mapM_cons]
        simp only [Sem.run_bind, h5, h1, Result.andThen_ok, Sem.run_pure, trL]
      · cases hv
    · cases hv
def oneV : List Value → Value
  | [v] => v
  | l => .tuple l.toArray
theorem results_run {fn : Func} {l : List Value} (hr : (fn.results.toList.mapM (oneRes a.tmps)).run P w = .ok l w) :
    (results fn a.tmps).run P w = .ok (oneV l) w := by
  have hm : (fn.results.mapM (oneRes a.tmps)).run P w = .ok l.toArray w := by
    rw [Array.mapM_eq_mapM_toList]
    simp [hr]
  have hf : results fn a.tmps = (do let vs ← fn.results.mapM (oneRes a.tmps); pure (if h : vs.size = 1 then vs[0] else .tuple vs)) := by
    unfold results
    congr 2
  rw [hf]
  simp only [Sem.run_bind, hm, Result.andThen_ok, Sem.run_pure]
  match l with
  | [] => rfl
  | [v] => rfl
  | v :: u :: l => simp [oneV]
end
end Go.Proofs.YtlfljoeafpimpaaGreatDoor
