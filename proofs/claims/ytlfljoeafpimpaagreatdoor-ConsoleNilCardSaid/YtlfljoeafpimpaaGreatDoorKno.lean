/- What the evaluator asks of the program: its tables of types and functions; its plans; types whose values are held against each other; a deferred function that does nothing where nobody panics. -/
import Derived.Test.YtlfljoeafpimpaaGreatDoorOrd
import Derived.Test.YtlfljoeafpimpaaGreatDoorPtk
import Derived.Test.YtlfljoeafpimpaaGreatDoorPur
import Derived.Test.YtlfljoeafpimpaaGreatDoorNoo
import Derived.KernelRfl
import Derived.RecoverIn
namespace Go.Proofs.YtlfljoeafpimpaaGreatDoor
open Go.RowKit

/-! ### tables -/
theorem getElem_map {α : Type} {l : List α} {g : Nat → Option α} {N : Nat} (h : (List.range N).map g = l.map some ++ List.replicate (N - l.length) none) {i : Nat} (hi : i < N) : g i = l[i]? := by
  have h1 : ((List.range N).map g)[i]? = some (g i) := by rw [List.getElem?_map, List.getElem?_range hi]; rfl
  rw [h] at h1
  by_cases h2 : i < l.length
  · rw [List.getElem?_append_left (by simpa using h2), List.getElem?_map, List.getElem?_eq_getElem h2] at h1
    rw [List.getElem?_eq_getElem h2]
    exact (Option.some.inj h1).symm
  · rw [List.getElem?_append_right (by simpa using Nat.le_of_not_lt h2), List.getElem?_replicate] at h1
    rw [List.getElem?_eq_none (Nat.le_of_not_lt h2)]
    split at h1
    · exact (Option.some.inj h1).symm
    · cases h1
theorem tab_ok {α : Type} {t : Tr α} {l : List α} (h : (List.range 1024).map (Tr.get 10 t) = l.map some ++ List.replicate (1024 - l.length) none) (hl : Nat.ble l.length 1024 = true) (i : Nat) : Tr.get 10 t i = l[i]? := by
  have hl := Nat.le_of_ble_eq_true hl
  rcases Nat.lt_or_ge i 1024 with h1 | h1
  · exact getElem_map h h1
  · rw [Tr.get_big 10 t i h1, List.getElem?_eq_none (Nat.le_trans hl h1)]
theorem tyOk_of {P : Program} {Ty : Tr TypeInfo} (h : (List.range 1024).map (Tr.get 10 Ty) = P.types.toList.map some ++ List.replicate (1024 - P.types.toList.length) none) (hl : Nat.ble P.types.toList.length 1024 = true) : TyOk P Ty := ⟨fun t i h1 => by
  rw [tab_ok h hl, Array.getElem?_toList] at h1
  unfold Tables.info?
  rw [if_pos (Array.getElem?_eq_some_iff.1 h1).1]
  exact h1⟩
theorem fnOk_of {P : Program} {Fn : Tr Func} (h : (List.range 1024).map (Tr.get 10 Fn) = P.funcs.toList.map some ++ List.replicate (1024 - P.funcs.toList.length) none) (hl : Nat.ble P.funcs.toList.length 1024 = true) (hn : (P.funcs.toList.all fun fn => !(fn.name == "runtime.NumGoroutine")) = true) :
    ∀ f fn, Tr.get 10 Fn f = some fn → P.funcs[f]? = some fn ∧ (fn.name == "runtime.NumGoroutine") = false := fun f fn h1 => by
  rw [tab_ok h hl] at h1
  have h2 := List.all_eq_true.1 hn fn (List.mem_of_getElem? h1)
  rw [Array.getElem?_toList] at h1
  exact ⟨h1, by simpa using h2⟩
theorem ty_tab : (List.range 1024).map (Tr.get 10 TyL) = Tryz.prog.types.toList.map some ++ List.replicate (1024 - Tryz.prog.types.toList.length) none := by kernel_rfl
theorem fn_tab : (List.range 1024).map (Tr.get 10 FnL) = Tryz.prog.funcs.toList.map some ++ List.replicate (1024 - Tryz.prog.funcs.toList.length) none := by kernel_rfl
theorem ty_len : Nat.ble Tryz.prog.types.toList.length 1024 = true := by kernel_rfl
theorem fn_len : Nat.ble Tryz.prog.funcs.toList.length 1024 = true := by kernel_rfl
theorem fn_names : (Tryz.prog.funcs.toList.all fun fn => !(fn.name == "runtime.NumGoroutine")) = true := by kernel_rfl
theorem tyOk : TyOk Tryz.prog TyL := tyOk_of ty_tab ty_len
theorem fnOk : ∀ f fn, Tr.get 10 FnL f = some fn → Tryz.prog.funcs[f]? = some fn ∧ (fn.name == "runtime.NumGoroutine") = false := fnOk_of fn_tab fn_len fn_names
/-! ### plans -/
theorem pt_mem : ∀ {l : List (Nat × PlT)} {f : Nat} {p : PlT}, (∀ x ∈ l, x.1 < 1024) → Tr.get 10 (l.foldr (fun x t => Tr.set 10 t x.1 (.leaf x.2)) .nil) f = some p → (f, p) ∈ l
  | [], f, p, _, h => by
    rw [show ([] : List (Nat × PlT)).foldr (fun x t => Tr.set 10 t x.1 (.leaf x.2)) .nil = .nil from rfl, Tr.get_nil] at h; cases h
  | x :: l, f, p, hx, h => by
    rw [List.foldr_cons] at h
    have hx1 := hx x (List.mem_cons_self ..)
    by_cases hf : x.1 = f
    · subst hf
      rw [Tr.get_set_same 10 _ _ _ hx1] at h
      injection h with h; subst h
      exact List.mem_cons_self ..
    · rw [Tr.get_set_other 10 _ _ _ _ hx1 hf] at h
      exact List.mem_cons_of_mem _ (pt_mem (fun y hy => hx y (List.mem_cons_of_mem _ hy)) h)
theorem pt_small : (PtE.all fun x => Nat.ble (x.1 + 1) 1024) = true := by kernel_rfl
theorem ptOk : ∀ f fn, Tr.get 10 FnL f = some fn → ∀ c, fn.body = some c → chkC TyL (ptOf PtL f) c = true := fun f fn hf c hc => by
  unfold ptOf
  split
  · rename_i p hp
    have hm := pt_mem (fun x hx => Nat.le_of_ble_eq_true (List.all_eq_true.1 pt_small x hx)) hp
    obtain ⟨l, hl, hm⟩ := List.mem_flatten.1 hm
    have := chkAll_mem (pt_chk l hl) _ hm
    unfold chkF at this
    simp only [hf, hc] at this
    exact this
  · exact chkC_nil c
/-! ### types -/
theorem flat_all : (flatL.all fun t => !Tryz.prog.stoodInHeld t && !Tryz.prog.eqGuardType Tryz.prog.depth t) = true := by kernel_rfl
theorem flatOk : FlatOk Tryz.prog flatS := fun t h => by
  unfold flatS at h
  rw [hasN_eq, List.contains_iff_mem] at h
  have h1 := List.all_eq_true.1 flat_all t h
  rw [Bool.and_eq_true] at h1
  exact ⟨by simpa using h1.1, by simpa using h1.2⟩
theorem follows : Tryz.prog.follows .mixedOrders = true := by kernel_rfl
/-! ### deferred functions that ask whether somebody panics -/
theorem dnoOk : ∀ g, dnoS g = true → NoopD Tryz.prog g := fun g hg => by
  unfold dnoS at hg
  rw [hasN_eq, List.contains_iff_mem] at hg
  exact noopAll g hg
/-! ### calls without oracles -/
noncomputable def run0S : CallE := evCall TyL dnoS flatS FnL PtL .nil 5000 12
theorem run0_ok : CallOk Tryz.prog run0S :=
  evCall_run tyOk ptOk fnOk (fun f g h => by rw [Tr.get_nil] at h; cases h) (fun _ hc => snd tyOk hc) follows dnoOk flatOk 12
noncomputable def allP (f : FuncId) (l : List Pur) : Bool := List.rec (motive := fun _ => Bool) true (fun p _ ih => purOk (run0S.fn f p.xs hE) p && ih) l
theorem allP_mem {f : FuncId} : ∀ {l : List Pur}, allP f l = true → ∀ p ∈ l, purOk (run0S.fn f p.xs hE) p = true
  | [], _, p, hp => by cases hp
  | q :: l, h, p, hp => by
    have h1 : (purOk (run0S.fn f q.xs hE) q && allP f l) = true := h
    rw [Bool.and_eq_true] at h1
    rcases List.mem_cons.1 hp with rfl | hp
    · exact h1.1
    · exact allP_mem h1.2 p hp
end Go.Proofs.YtlfljoeafpimpaaGreatDoor
